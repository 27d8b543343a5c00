/- hostlerref01.Size, Bytes, Short; varint.Size. -/
import Derived.Test.YtioggedadamoaaaTiVa
import Derived.Test.YtioggedadamoaaaAbsR
set_option autoImplicit false
set_option linter.unusedVariables false
set_option linter.unusedSimpArgs false
namespace Go.Proofs.Ytioggedadamoaaa
open Go.Abs Go.RowKit
section
variable {pre : FuncId → Option (List Value → AW → Option (Value × AW))} {dr : CallF → Array Oper → Array Value → AW → Option (Array Value × AW)} {A : AW} {m : Nat}
def encC : Nat → Int → List Int
 | 0, n => [n % 256 + 0]
 | 1, n => [n / 256 % 256 + 64, n % 256]
 | 2, n => [n / 256 / 256 / 256 % 256 + 128, n / 256 / 256 % 256, n / 256 % 256, n % 256]
 | _, n => [n / 256 / 256 / 256 / 256 / 256 / 256 / 256 % 256 + 192, n / 256 / 256 / 256 / 256 / 256 / 256 % 256, n / 256 / 256 / 256 / 256 / 256 % 256, n / 256 / 256 / 256 / 256 % 256, n / 256 / 256 / 256 % 256, n / 256 / 256 % 256, n / 256 % 256, n % 256]
def inC (c : Nat) (n : Int) : Prop := 0 ≤ n ∧ n < 64 * 256 ^ (2 ^ c - 1)
theorem encC_byte {c : Nat} (hc : c < 4) {n : Int} (h : inC c n) : isByte (encC c n) := by
 have hc4 : c = 0 ∨ c = 1 ∨ c = 2 ∨ c = 3 := by omega
 unfold inC at h
 rcases hc4 with rfl | rfl | rfl | rfl <;> simp only [isByte, encC, List.mem_cons, List.not_mem_nil, or_false] <;> simp at h <;> intro z hz <;> omega
theorem f28_spec0 (hp : pre 28 = none) (n : Int) (hn : inC 0 n) (hnx : A.nx = none) :
  ∃ A', acall Try.prog pre dr 100000 (m + 1) 28 [.int .u64 n, .int .i64 1] A = some (.slice (some ⟨A.nid, 0, none⟩) 1 1, A') ∧ Own A' A.nid (encC 0 n) ∧ AExt A A' ∧ A'.nx = none := by
 suffices hs : ∃ v' A', acall Try.prog pre dr 100000 (m + 1) 28 [.int .u64 n, .int .i64 1] A = some (v', A') ∧ (v' = .slice (some ⟨A.nid, 0, none⟩) 1 1 ∧ Own A' A.nid (encC 0 n) ∧ AExt A A' ∧ A'.nx = none) by
  obtain ⟨v', A', e, rfl, h⟩ := hs
  exact ⟨A', e, h⟩
 have hn0 : 0 ≤ n ∧ n < 64 := hn
 have hnid := nid_none hnx
 refine J.fn (fn := Try.f28) hp Try.func28 rfl (bl rfl) ?_
 refine J.sr ?_
 refine EO.run 1 [0, 1, 4] (S2 := [(0, .int .u64 n), (1, .int .i64 1), (4, .slice none 0 0)]) (A2 := A) rfl (by kernel_rfl) ?_
 refine EO.done rfl ?_
 refine J.sr ?_
 refine EO.run 1 [0, 1, 4, 9] (S2 := [(0, .int .u64 n), (1, .int .i64 1), (4, .slice none 0 0), (9, .int .i64 1)]) (A2 := A) rfl (by kernel_rfl) ?_
 obtain ⟨A1, hA1, hx1, hn1, hO1⟩ := new_zeros hnx [0] (by intro z hz; simp at hz; omega)
 refine EO.run 2 [0, 1, 4, 9, 10] (S2 := [(0, .int .u64 n), (1, .int .i64 1), (4, .slice none 0 0), (9, .int .i64 1), (10, .slice (some ⟨A.nid, 0, none⟩) 1 1)]) (A2 := A.push (.cells (u8s [0]) false false 1)) rfl (by kernel_rfl) ?_
 rw [hA1]
 refine EO.run 3 [0, 1, 4, 5] (S2 := [(0, .int .u64 n), (1, .int .i64 1), (4, .slice none 0 0), (5, .slice (some ⟨A.nid, 0, none⟩) 1 1)]) (A2 := A1) rfl (by kernel_rfl) ?_
 refine EO.done rfl ?_
 refine J.seq ?_
 refine J.sr ?_
 refine EO.run 3 [0, 1, 4, 5, 6] (S2 := [(0, .int .u64 n), (1, .int .i64 1), (4, .slice none 0 0), (5, .slice (some ⟨A.nid, 0, none⟩) 1 1), (6, .int .i64 0)]) (A2 := A1) rfl (by kernel_rfl) ?_
 refine EO.done rfl ?_
 refine J.block ?_
 refine J.unroll ?_
 refine JL.step ?_
 refine J.seq ?_
 refine J.sr ?_
 refine EO.run 2 [0, 1, 4, 5, 6, 14] (S2 := [(0, .int .u64 n), (1, .int .i64 1), (4, .slice none 0 0), (5, .slice (some ⟨A.nid, 0, none⟩) 1 1), (6, .int .i64 0), (14, .bool true)]) (A2 := A1) rfl (by kernel_rfl) ?_
 refine EO.done rfl ?_
 refine J.cond true (by kernel_rfl) (fun _ => ?_) (fun h => Bool.noConfusion h)
 refine J.skip ?_
 refine thenJ_n ?_
 refine J.seq ?_
 refine J.block ?_
 refine J.sr ?_
 refine EO.run 5 [0, 1, 4, 5, 6, 14, 17, 18, 21] (S2 := [(0, .int .u64 n), (1, .int .i64 1), (4, .slice none 0 0), (5, .slice (some ⟨A.nid, 0, none⟩) 1 1), (6, .int .i64 0), (14, .bool true), (17, .slice (some ⟨A.nid, 0, none⟩) 1 1), (18, .int .i64 0), (21, .int .u8 (IntKind.wrap .u8 (Int.tmod n 256)))]) (A2 := A1) rfl (by kernel_rfl) ?_
 refine EO.cast (S2 := [(0, .int .u64 n), (1, .int .i64 1), (4, .slice none 0 0), (5, .slice (some ⟨A.nid, 0, none⟩) 1 1), (6, .int .i64 0), (14, .bool true), (17, .slice (some ⟨A.nid, 0, none⟩) 1 1), (18, .int .i64 0), (21, .int .u8 (n % 256))]) (by rw [tmod256 (x := n) (by omega)]) ?_
 refine EO.index (v := .slice (some ⟨A.nid, 0, none⟩) 1 1) (u := .int .i64 (Int.ofNat 0)) (w := .pointer (some ⟨A.nid, 0 + 0 * 1, none⟩)) rfl rfl rfl (by kernel_rfl) (by kernel_rfl) (by kernel_rfl) (aindexAddr_slice (elem := 5) (size := 1) (by kernel_rfl) (by kernel_rfl) (by decide)) ?_
 obtain ⟨A2, hst1, hO2', hM1⟩ := hO1.store (P := Try.prog) hn1 (t := 5) (by kernel_rfl) (i := 0) (bl rfl) (z := n % 256) (by omega)
 have hn2 := hM1.nx
 have hO2 : Own A2 A.nid [n % 256] := hO2'
 have hx2 := hx1.mod hM1 (by omega)
 refine EO.store (ad := ⟨A.nid, 0 + 0 * 1, none⟩) (u := .int .u8 (n % 256)) (A1 := A2) rfl rfl rfl (by kernel_rfl) (by kernel_rfl) (by kernel_rfl) hst1 ?_
 refine EO.done rfl ?_
 refine J.region ?_
 refine EO.run 2 [0, 1, 4, 5, 6, 14, 17, 18, 21, 22, 24] (S2 := [(0, .int .u64 n), (1, .int .i64 1), (4, .slice none 0 0), (5, .slice (some ⟨A.nid, 0, none⟩) 1 1), (6, .int .i64 0), (14, .bool true), (17, .slice (some ⟨A.nid, 0, none⟩) 1 1), (18, .int .i64 0), (21, .int .u8 (n % 256)), (22, .pointer (some ⟨A.nid, 0 + 0 * 1, none⟩)), (24, .int .u64 (IntKind.wrap .u64 (Int.tdiv n 256)))]) (A2 := A2) rfl (by kernel_rfl) ?_
 refine EO.cast (S2 := [(0, .int .u64 n), (1, .int .i64 1), (4, .slice none 0 0), (5, .slice (some ⟨A.nid, 0, none⟩) 1 1), (6, .int .i64 0), (14, .bool true), (17, .slice (some ⟨A.nid, 0, none⟩) 1 1), (18, .int .i64 0), (21, .int .u8 (n % 256)), (22, .pointer (some ⟨A.nid, 0 + 0 * 1, none⟩)), (24, .int .u64 (n / 256))]) (by rw [tdiv256 (x := n) (by omega) (by omega)]) ?_
 refine EO.run 3 [0, 1, 4, 5, 6, 14, 17, 18, 21, 22] (S2 := [(0, .int .u64 (n / 256)), (1, .int .i64 1), (4, .slice none 0 0), (5, .slice (some ⟨A.nid, 0, none⟩) 1 1), (6, .int .i64 0), (14, .bool true), (17, .slice (some ⟨A.nid, 0, none⟩) 1 1), (18, .int .i64 0), (21, .int .u8 (n % 256)), (22, .pointer (some ⟨A.nid, 0 + 0 * 1, none⟩))]) (A2 := A2) rfl (by kernel_rfl) ?_
 refine EO.done rfl ?_
 refine blockQ_n ?_
 refine thenJ_n ?_
 refine J.region ?_
 refine EO.run 3 [0, 1, 4, 5, 6, 14, 17, 18, 21, 22] (S2 := [(0, .int .u64 (n / 256)), (1, .int .i64 1), (4, .slice none 0 0), (5, .slice (some ⟨A.nid, 0, none⟩) 1 1), (6, .int .i64 (-1)), (14, .bool true), (17, .slice (some ⟨A.nid, 0, none⟩) 1 1), (18, .int .i64 0), (21, .int .u8 (n % 256)), (22, .pointer (some ⟨A.nid, 0 + 0 * 1, none⟩))]) (A2 := A2) rfl (by kernel_rfl) ?_
 refine EO.done rfl ?_
 refine loopQ_n ?_
 refine JL.step ?_
 refine J.seq ?_
 refine J.sr ?_
 refine EO.run 2 [0, 1, 4, 5, 6, 14, 17, 18, 21, 22] (S2 := [(0, .int .u64 (n / 256)), (1, .int .i64 1), (4, .slice none 0 0), (5, .slice (some ⟨A.nid, 0, none⟩) 1 1), (6, .int .i64 (-1)), (14, .bool false), (17, .slice (some ⟨A.nid, 0, none⟩) 1 1), (18, .int .i64 0), (21, .int .u8 (n % 256)), (22, .pointer (some ⟨A.nid, 0 + 0 * 1, none⟩))]) (A2 := A2) rfl (by kernel_rfl) ?_
 refine EO.done rfl ?_
 refine J.cond false (by kernel_rfl) (fun h => Bool.noConfusion h) (fun _ => ?_)
 refine J.exit ?_
 refine thenJ_e ?_
 refine loopQ_e ?_
 refine blockQ_hit ?_
 refine thenJ_n ?_
 refine J.sr ?_
 refine EO.run 1 [0, 1, 4, 5, 6, 7, 14, 17, 18, 21, 22] (S2 := [(0, .int .u64 (n / 256)), (1, .int .i64 1), (4, .slice none 0 0), (5, .slice (some ⟨A.nid, 0, none⟩) 1 1), (6, .int .i64 (-1)), (7, .int .i64 0), (14, .bool false), (17, .slice (some ⟨A.nid, 0, none⟩) 1 1), (18, .int .i64 0), (21, .int .u8 (n % 256)), (22, .pointer (some ⟨A.nid, 0 + 0 * 1, none⟩))]) (A2 := A2) rfl (by kernel_rfl) ?_
 refine EO.done rfl ?_
 refine J.seq ?_
 refine J.sr ?_
 refine EO.run 1 [0, 1, 4, 5, 6, 7, 8, 14, 17, 18, 21, 22] (S2 := [(0, .int .u64 (n / 256)), (1, .int .i64 1), (4, .slice none 0 0), (5, .slice (some ⟨A.nid, 0, none⟩) 1 1), (6, .int .i64 (-1)), (7, .int .i64 0), (8, .int .i64 1), (14, .bool false), (17, .slice (some ⟨A.nid, 0, none⟩) 1 1), (18, .int .i64 0), (21, .int .u8 (n % 256)), (22, .pointer (some ⟨A.nid, 0 + 0 * 1, none⟩))]) (A2 := A2) rfl (by kernel_rfl) ?_
 refine EO.done rfl ?_
 refine J.block ?_
 refine J.unroll ?_
 refine JL.step ?_
 refine J.seq ?_
 refine J.sr ?_
 refine EO.run 3 [0, 1, 4, 5, 6, 7, 8, 14, 17, 18, 21, 22, 27] (S2 := [(0, .int .u64 (n / 256)), (1, .int .i64 1), (4, .slice none 0 0), (5, .slice (some ⟨A.nid, 0, none⟩) 1 1), (6, .int .i64 (-1)), (7, .int .i64 0), (8, .int .i64 1), (14, .bool false), (17, .slice (some ⟨A.nid, 0, none⟩) 1 1), (18, .int .i64 0), (21, .int .u8 (n % 256)), (22, .pointer (some ⟨A.nid, 0 + 0 * 1, none⟩)), (27, .bool false)]) (A2 := A2) rfl (by kernel_rfl) ?_
 refine EO.done rfl ?_
 refine J.cond false (by kernel_rfl) (fun h => Bool.noConfusion h) (fun _ => ?_)
 refine J.exit ?_
 refine thenJ_e ?_
 refine loopQ_e ?_
 refine blockQ_hit ?_
 refine thenJ_n ?_
 refine J.sr ?_
 refine EO.run 2 [0, 1, 4, 5, 6, 7, 8, 14, 17, 18, 21, 22, 27, 32, 33] (S2 := [(0, .int .u64 (n / 256)), (1, .int .i64 1), (4, .slice none 0 0), (5, .slice (some ⟨A.nid, 0, none⟩) 1 1), (6, .int .i64 (-1)), (7, .int .i64 0), (8, .int .i64 1), (14, .bool false), (17, .slice (some ⟨A.nid, 0, none⟩) 1 1), (18, .int .i64 0), (21, .int .u8 (n % 256)), (22, .pointer (some ⟨A.nid, 0 + 0 * 1, none⟩)), (27, .bool false), (32, .slice (some ⟨A.nid, 0, none⟩) 1 1), (33, .slice (some ⟨A.nid, 0, none⟩) 1 1)]) (A2 := A2) rfl (by kernel_rfl) ?_
 refine EO.index (v := .slice (some ⟨A.nid, 0, none⟩) 1 1) (u := .int .i64 (Int.ofNat 0)) (w := .pointer (some ⟨A.nid, 0 + 0 * 1, none⟩)) rfl rfl rfl (by kernel_rfl) (by kernel_rfl) (by kernel_rfl) (aindexAddr_slice (elem := 5) (size := 1) (by kernel_rfl) (by kernel_rfl) (by decide)) ?_
 refine EO.load (ad := ⟨A.nid, 0 + 0 * 1, none⟩) (w := .int .u8 (n % 256)) rfl rfl rfl (by kernel_rfl) (by kernel_rfl) (hO2.row.load (by kernel_rfl) rfl) ?_
 refine EO.run 8 [0, 1, 4, 5, 6, 7, 8, 14, 17, 18, 21, 22, 27, 32, 39] (S2 := [(0, .int .u64 (n / 256)), (1, .int .i64 1), (4, .slice none 0 0), (5, .slice (some ⟨A.nid, 0, none⟩) 1 1), (6, .int .i64 (-1)), (7, .int .i64 0), (8, .int .i64 1), (14, .bool false), (17, .slice (some ⟨A.nid, 0, none⟩) 1 1), (18, .int .i64 0), (21, .int .u8 (n % 256)), (22, .pointer (some ⟨A.nid, 0 + 0 * 1, none⟩)), (27, .bool false), (32, .slice (some ⟨A.nid, 0, none⟩) 1 1), (39, .int .u8 (IntKind.wrap .u8 ((n % 256) + 0)))]) (A2 := A2) rfl (by kernel_rfl) ?_
 refine EO.cast (S2 := [(0, .int .u64 (n / 256)), (1, .int .i64 1), (4, .slice none 0 0), (5, .slice (some ⟨A.nid, 0, none⟩) 1 1), (6, .int .i64 (-1)), (7, .int .i64 0), (8, .int .i64 1), (14, .bool false), (17, .slice (some ⟨A.nid, 0, none⟩) 1 1), (18, .int .i64 0), (21, .int .u8 (n % 256)), (22, .pointer (some ⟨A.nid, 0 + 0 * 1, none⟩)), (27, .bool false), (32, .slice (some ⟨A.nid, 0, none⟩) 1 1), (39, .int .u8 (n % 256 + 0))]) (by rw [wrap_u8 (by omega) (by omega)]) ?_
 refine EO.index (v := .slice (some ⟨A.nid, 0, none⟩) 1 1) (u := .int .i64 (Int.ofNat 0)) (w := .pointer (some ⟨A.nid, 0 + 0 * 1, none⟩)) rfl rfl rfl (by kernel_rfl) (by kernel_rfl) (by kernel_rfl) (aindexAddr_slice (elem := 5) (size := 1) (by kernel_rfl) (by kernel_rfl) (by decide)) ?_
 obtain ⟨A3, hst2, hO3', hM2⟩ := hO2.store (P := Try.prog) hn2 (t := 5) (by kernel_rfl) (i := 0) (bl rfl) (z := n % 256 + 0) (by omega)
 have hn3 := hM2.nx
 have hO3 : Own A3 A.nid [n % 256 + 0] := hO3'
 have hx3 := hx2.mod hM2 (by omega)
 refine EO.store (ad := ⟨A.nid, 0 + 0 * 1, none⟩) (u := .int .u8 (n % 256 + 0)) (A1 := A3) rfl rfl rfl (by kernel_rfl) (by kernel_rfl) (by kernel_rfl) hst2 ?_
 refine EO.done rfl ?_
 refine J.sr ?_
 refine EO.run 2 [0, 1, 4, 5, 6, 7, 8, 14, 17, 18, 21, 22, 27, 32, 39, 40] (S2 := [(0, .int .u64 (n / 256)), (1, .int .i64 1), (4, .slice (some ⟨A.nid, 0, none⟩) 1 1), (5, .slice (some ⟨A.nid, 0, none⟩) 1 1), (6, .int .i64 (-1)), (7, .int .i64 0), (8, .int .i64 1), (14, .bool false), (17, .slice (some ⟨A.nid, 0, none⟩) 1 1), (18, .int .i64 0), (21, .int .u8 (n % 256)), (22, .pointer (some ⟨A.nid, 0 + 0 * 1, none⟩)), (27, .bool false), (32, .slice (some ⟨A.nid, 0, none⟩) 1 1), (39, .int .u8 (n % 256 + 0)), (40, .pointer (some ⟨A.nid, 0 + 0 * 1, none⟩))]) (A2 := A3) rfl (by kernel_rfl) ?_
 refine EO.done rfl ?_
 refine J.ret ?_
 refine Ends_r (vs := [.slice (some ⟨A.nid, 0, none⟩) 1 1]) (by kernel_rfl) ?_
 exact ⟨rfl, hO3, hx3, hn3⟩
theorem f28_spec1 (hp : pre 28 = none) (n : Int) (hn : inC 1 n) (hnx : A.nx = none) :
  ∃ A', acall Try.prog pre dr 100000 (m + 1) 28 [.int .u64 n, .int .i64 2] A = some (.slice (some ⟨A.nid, 0, none⟩) 2 2, A') ∧ Own A' A.nid (encC 1 n) ∧ AExt A A' ∧ A'.nx = none := by
 suffices hs : ∃ v' A', acall Try.prog pre dr 100000 (m + 1) 28 [.int .u64 n, .int .i64 2] A = some (v', A') ∧ (v' = .slice (some ⟨A.nid, 0, none⟩) 2 2 ∧ Own A' A.nid (encC 1 n) ∧ AExt A A' ∧ A'.nx = none) by
  obtain ⟨v', A', e, rfl, h⟩ := hs
  exact ⟨A', e, h⟩
 have hn0 : 0 ≤ n ∧ n < 16384 := hn
 have hnid := nid_none hnx
 refine J.fn (fn := Try.f28) hp Try.func28 rfl (bl rfl) ?_
 refine J.sr ?_
 refine EO.run 1 [0, 1, 4] (S2 := [(0, .int .u64 n), (1, .int .i64 2), (4, .slice none 0 0)]) (A2 := A) rfl (by kernel_rfl) ?_
 refine EO.done rfl ?_
 refine J.sr ?_
 refine EO.run 1 [0, 1, 4, 9] (S2 := [(0, .int .u64 n), (1, .int .i64 2), (4, .slice none 0 0), (9, .int .i64 2)]) (A2 := A) rfl (by kernel_rfl) ?_
 obtain ⟨A1, hA1, hx1, hn1, hO1⟩ := new_zeros hnx [0, 0] (by intro z hz; simp at hz; omega)
 refine EO.run 2 [0, 1, 4, 9, 10] (S2 := [(0, .int .u64 n), (1, .int .i64 2), (4, .slice none 0 0), (9, .int .i64 2), (10, .slice (some ⟨A.nid, 0, none⟩) 2 2)]) (A2 := A.push (.cells (u8s [0, 0]) false false 1)) rfl (by kernel_rfl) ?_
 rw [hA1]
 refine EO.run 3 [0, 1, 4, 5] (S2 := [(0, .int .u64 n), (1, .int .i64 2), (4, .slice none 0 0), (5, .slice (some ⟨A.nid, 0, none⟩) 2 2)]) (A2 := A1) rfl (by kernel_rfl) ?_
 refine EO.done rfl ?_
 refine J.seq ?_
 refine J.sr ?_
 refine EO.run 3 [0, 1, 4, 5, 6] (S2 := [(0, .int .u64 n), (1, .int .i64 2), (4, .slice none 0 0), (5, .slice (some ⟨A.nid, 0, none⟩) 2 2), (6, .int .i64 1)]) (A2 := A1) rfl (by kernel_rfl) ?_
 refine EO.done rfl ?_
 refine J.block ?_
 refine J.unroll ?_
 refine JL.step ?_
 refine J.seq ?_
 refine J.sr ?_
 refine EO.run 2 [0, 1, 4, 5, 6, 14] (S2 := [(0, .int .u64 n), (1, .int .i64 2), (4, .slice none 0 0), (5, .slice (some ⟨A.nid, 0, none⟩) 2 2), (6, .int .i64 1), (14, .bool true)]) (A2 := A1) rfl (by kernel_rfl) ?_
 refine EO.done rfl ?_
 refine J.cond true (by kernel_rfl) (fun _ => ?_) (fun h => Bool.noConfusion h)
 refine J.skip ?_
 refine thenJ_n ?_
 refine J.seq ?_
 refine J.block ?_
 refine J.sr ?_
 refine EO.run 5 [0, 1, 4, 5, 6, 14, 17, 18, 21] (S2 := [(0, .int .u64 n), (1, .int .i64 2), (4, .slice none 0 0), (5, .slice (some ⟨A.nid, 0, none⟩) 2 2), (6, .int .i64 1), (14, .bool true), (17, .slice (some ⟨A.nid, 0, none⟩) 2 2), (18, .int .i64 1), (21, .int .u8 (IntKind.wrap .u8 (Int.tmod n 256)))]) (A2 := A1) rfl (by kernel_rfl) ?_
 refine EO.cast (S2 := [(0, .int .u64 n), (1, .int .i64 2), (4, .slice none 0 0), (5, .slice (some ⟨A.nid, 0, none⟩) 2 2), (6, .int .i64 1), (14, .bool true), (17, .slice (some ⟨A.nid, 0, none⟩) 2 2), (18, .int .i64 1), (21, .int .u8 (n % 256))]) (by rw [tmod256 (x := n) (by omega)]) ?_
 refine EO.index (v := .slice (some ⟨A.nid, 0, none⟩) 2 2) (u := .int .i64 (Int.ofNat 1)) (w := .pointer (some ⟨A.nid, 0 + 1 * 1, none⟩)) rfl rfl rfl (by kernel_rfl) (by kernel_rfl) (by kernel_rfl) (aindexAddr_slice (elem := 5) (size := 1) (by kernel_rfl) (by kernel_rfl) (by decide)) ?_
 obtain ⟨A2, hst1, hO2', hM1⟩ := hO1.store (P := Try.prog) hn1 (t := 5) (by kernel_rfl) (i := 1) (bl rfl) (z := n % 256) (by omega)
 have hn2 := hM1.nx
 have hO2 : Own A2 A.nid [0, n % 256] := hO2'
 have hx2 := hx1.mod hM1 (by omega)
 refine EO.store (ad := ⟨A.nid, 0 + 1 * 1, none⟩) (u := .int .u8 (n % 256)) (A1 := A2) rfl rfl rfl (by kernel_rfl) (by kernel_rfl) (by kernel_rfl) hst1 ?_
 refine EO.done rfl ?_
 refine J.region ?_
 refine EO.run 2 [0, 1, 4, 5, 6, 14, 17, 18, 21, 22, 24] (S2 := [(0, .int .u64 n), (1, .int .i64 2), (4, .slice none 0 0), (5, .slice (some ⟨A.nid, 0, none⟩) 2 2), (6, .int .i64 1), (14, .bool true), (17, .slice (some ⟨A.nid, 0, none⟩) 2 2), (18, .int .i64 1), (21, .int .u8 (n % 256)), (22, .pointer (some ⟨A.nid, 0 + 1 * 1, none⟩)), (24, .int .u64 (IntKind.wrap .u64 (Int.tdiv n 256)))]) (A2 := A2) rfl (by kernel_rfl) ?_
 refine EO.cast (S2 := [(0, .int .u64 n), (1, .int .i64 2), (4, .slice none 0 0), (5, .slice (some ⟨A.nid, 0, none⟩) 2 2), (6, .int .i64 1), (14, .bool true), (17, .slice (some ⟨A.nid, 0, none⟩) 2 2), (18, .int .i64 1), (21, .int .u8 (n % 256)), (22, .pointer (some ⟨A.nid, 0 + 1 * 1, none⟩)), (24, .int .u64 (n / 256))]) (by rw [tdiv256 (x := n) (by omega) (by omega)]) ?_
 refine EO.run 3 [0, 1, 4, 5, 6, 14, 17, 18, 21, 22] (S2 := [(0, .int .u64 (n / 256)), (1, .int .i64 2), (4, .slice none 0 0), (5, .slice (some ⟨A.nid, 0, none⟩) 2 2), (6, .int .i64 1), (14, .bool true), (17, .slice (some ⟨A.nid, 0, none⟩) 2 2), (18, .int .i64 1), (21, .int .u8 (n % 256)), (22, .pointer (some ⟨A.nid, 0 + 1 * 1, none⟩))]) (A2 := A2) rfl (by kernel_rfl) ?_
 refine EO.done rfl ?_
 refine blockQ_n ?_
 refine thenJ_n ?_
 refine J.region ?_
 refine EO.run 3 [0, 1, 4, 5, 6, 14, 17, 18, 21, 22] (S2 := [(0, .int .u64 (n / 256)), (1, .int .i64 2), (4, .slice none 0 0), (5, .slice (some ⟨A.nid, 0, none⟩) 2 2), (6, .int .i64 0), (14, .bool true), (17, .slice (some ⟨A.nid, 0, none⟩) 2 2), (18, .int .i64 1), (21, .int .u8 (n % 256)), (22, .pointer (some ⟨A.nid, 0 + 1 * 1, none⟩))]) (A2 := A2) rfl (by kernel_rfl) ?_
 refine EO.done rfl ?_
 refine loopQ_n ?_
 refine JL.step ?_
 refine J.seq ?_
 refine J.sr ?_
 refine EO.run 2 [0, 1, 4, 5, 6, 14, 17, 18, 21, 22] (S2 := [(0, .int .u64 (n / 256)), (1, .int .i64 2), (4, .slice none 0 0), (5, .slice (some ⟨A.nid, 0, none⟩) 2 2), (6, .int .i64 0), (14, .bool true), (17, .slice (some ⟨A.nid, 0, none⟩) 2 2), (18, .int .i64 1), (21, .int .u8 (n % 256)), (22, .pointer (some ⟨A.nid, 0 + 1 * 1, none⟩))]) (A2 := A2) rfl (by kernel_rfl) ?_
 refine EO.done rfl ?_
 refine J.cond true (by kernel_rfl) (fun _ => ?_) (fun h => Bool.noConfusion h)
 refine J.skip ?_
 refine thenJ_n ?_
 refine J.seq ?_
 refine J.block ?_
 refine J.sr ?_
 refine EO.run 5 [0, 1, 4, 5, 6, 14, 17, 18, 21, 22] (S2 := [(0, .int .u64 (n / 256)), (1, .int .i64 2), (4, .slice none 0 0), (5, .slice (some ⟨A.nid, 0, none⟩) 2 2), (6, .int .i64 0), (14, .bool true), (17, .slice (some ⟨A.nid, 0, none⟩) 2 2), (18, .int .i64 0), (21, .int .u8 (IntKind.wrap .u8 (Int.tmod (n / 256) 256))), (22, .pointer (some ⟨A.nid, 0 + 1 * 1, none⟩))]) (A2 := A2) rfl (by kernel_rfl) ?_
 refine EO.cast (S2 := [(0, .int .u64 (n / 256)), (1, .int .i64 2), (4, .slice none 0 0), (5, .slice (some ⟨A.nid, 0, none⟩) 2 2), (6, .int .i64 0), (14, .bool true), (17, .slice (some ⟨A.nid, 0, none⟩) 2 2), (18, .int .i64 0), (21, .int .u8 (n / 256 % 256)), (22, .pointer (some ⟨A.nid, 0 + 1 * 1, none⟩))]) (by rw [tmod256 (x := n / 256) (by omega)]) ?_
 refine EO.index (v := .slice (some ⟨A.nid, 0, none⟩) 2 2) (u := .int .i64 (Int.ofNat 0)) (w := .pointer (some ⟨A.nid, 0 + 0 * 1, none⟩)) rfl rfl rfl (by kernel_rfl) (by kernel_rfl) (by kernel_rfl) (aindexAddr_slice (elem := 5) (size := 1) (by kernel_rfl) (by kernel_rfl) (by decide)) ?_
 obtain ⟨A3, hst2, hO3', hM2⟩ := hO2.store (P := Try.prog) hn2 (t := 5) (by kernel_rfl) (i := 0) (bl rfl) (z := n / 256 % 256) (by omega)
 have hn3 := hM2.nx
 have hO3 : Own A3 A.nid [n / 256 % 256, n % 256] := hO3'
 have hx3 := hx2.mod hM2 (by omega)
 refine EO.store (ad := ⟨A.nid, 0 + 0 * 1, none⟩) (u := .int .u8 (n / 256 % 256)) (A1 := A3) rfl rfl rfl (by kernel_rfl) (by kernel_rfl) (by kernel_rfl) hst2 ?_
 refine EO.done rfl ?_
 refine J.region ?_
 refine EO.run 2 [0, 1, 4, 5, 6, 14, 17, 18, 21, 22, 24] (S2 := [(0, .int .u64 (n / 256)), (1, .int .i64 2), (4, .slice none 0 0), (5, .slice (some ⟨A.nid, 0, none⟩) 2 2), (6, .int .i64 0), (14, .bool true), (17, .slice (some ⟨A.nid, 0, none⟩) 2 2), (18, .int .i64 0), (21, .int .u8 (n / 256 % 256)), (22, .pointer (some ⟨A.nid, 0 + 0 * 1, none⟩)), (24, .int .u64 (IntKind.wrap .u64 (Int.tdiv (n / 256) 256)))]) (A2 := A3) rfl (by kernel_rfl) ?_
 refine EO.cast (S2 := [(0, .int .u64 (n / 256)), (1, .int .i64 2), (4, .slice none 0 0), (5, .slice (some ⟨A.nid, 0, none⟩) 2 2), (6, .int .i64 0), (14, .bool true), (17, .slice (some ⟨A.nid, 0, none⟩) 2 2), (18, .int .i64 0), (21, .int .u8 (n / 256 % 256)), (22, .pointer (some ⟨A.nid, 0 + 0 * 1, none⟩)), (24, .int .u64 (n / 256 / 256))]) (by rw [tdiv256 (x := n / 256) (by omega) (by omega)]) ?_
 refine EO.run 3 [0, 1, 4, 5, 6, 14, 17, 18, 21, 22] (S2 := [(0, .int .u64 (n / 256 / 256)), (1, .int .i64 2), (4, .slice none 0 0), (5, .slice (some ⟨A.nid, 0, none⟩) 2 2), (6, .int .i64 0), (14, .bool true), (17, .slice (some ⟨A.nid, 0, none⟩) 2 2), (18, .int .i64 0), (21, .int .u8 (n / 256 % 256)), (22, .pointer (some ⟨A.nid, 0 + 0 * 1, none⟩))]) (A2 := A3) rfl (by kernel_rfl) ?_
 refine EO.done rfl ?_
 refine blockQ_n ?_
 refine thenJ_n ?_
 refine J.region ?_
 refine EO.run 3 [0, 1, 4, 5, 6, 14, 17, 18, 21, 22] (S2 := [(0, .int .u64 (n / 256 / 256)), (1, .int .i64 2), (4, .slice none 0 0), (5, .slice (some ⟨A.nid, 0, none⟩) 2 2), (6, .int .i64 (-1)), (14, .bool true), (17, .slice (some ⟨A.nid, 0, none⟩) 2 2), (18, .int .i64 0), (21, .int .u8 (n / 256 % 256)), (22, .pointer (some ⟨A.nid, 0 + 0 * 1, none⟩))]) (A2 := A3) rfl (by kernel_rfl) ?_
 refine EO.done rfl ?_
 refine loopQ_n ?_
 refine JL.step ?_
 refine J.seq ?_
 refine J.sr ?_
 refine EO.run 2 [0, 1, 4, 5, 6, 14, 17, 18, 21, 22] (S2 := [(0, .int .u64 (n / 256 / 256)), (1, .int .i64 2), (4, .slice none 0 0), (5, .slice (some ⟨A.nid, 0, none⟩) 2 2), (6, .int .i64 (-1)), (14, .bool false), (17, .slice (some ⟨A.nid, 0, none⟩) 2 2), (18, .int .i64 0), (21, .int .u8 (n / 256 % 256)), (22, .pointer (some ⟨A.nid, 0 + 0 * 1, none⟩))]) (A2 := A3) rfl (by kernel_rfl) ?_
 refine EO.done rfl ?_
 refine J.cond false (by kernel_rfl) (fun h => Bool.noConfusion h) (fun _ => ?_)
 refine J.exit ?_
 refine thenJ_e ?_
 refine loopQ_e ?_
 refine blockQ_hit ?_
 refine thenJ_n ?_
 refine J.sr ?_
 refine EO.run 1 [0, 1, 4, 5, 6, 7, 14, 17, 18, 21, 22] (S2 := [(0, .int .u64 (n / 256 / 256)), (1, .int .i64 2), (4, .slice none 0 0), (5, .slice (some ⟨A.nid, 0, none⟩) 2 2), (6, .int .i64 (-1)), (7, .int .i64 0), (14, .bool false), (17, .slice (some ⟨A.nid, 0, none⟩) 2 2), (18, .int .i64 0), (21, .int .u8 (n / 256 % 256)), (22, .pointer (some ⟨A.nid, 0 + 0 * 1, none⟩))]) (A2 := A3) rfl (by kernel_rfl) ?_
 refine EO.done rfl ?_
 refine J.seq ?_
 refine J.sr ?_
 refine EO.run 1 [0, 1, 4, 5, 6, 7, 8, 14, 17, 18, 21, 22] (S2 := [(0, .int .u64 (n / 256 / 256)), (1, .int .i64 2), (4, .slice none 0 0), (5, .slice (some ⟨A.nid, 0, none⟩) 2 2), (6, .int .i64 (-1)), (7, .int .i64 0), (8, .int .i64 1), (14, .bool false), (17, .slice (some ⟨A.nid, 0, none⟩) 2 2), (18, .int .i64 0), (21, .int .u8 (n / 256 % 256)), (22, .pointer (some ⟨A.nid, 0 + 0 * 1, none⟩))]) (A2 := A3) rfl (by kernel_rfl) ?_
 refine EO.done rfl ?_
 refine J.block ?_
 refine J.unroll ?_
 refine JL.step ?_
 refine J.seq ?_
 refine J.sr ?_
 refine EO.run 3 [0, 1, 4, 5, 6, 7, 8, 14, 17, 18, 21, 22, 27] (S2 := [(0, .int .u64 (n / 256 / 256)), (1, .int .i64 2), (4, .slice none 0 0), (5, .slice (some ⟨A.nid, 0, none⟩) 2 2), (6, .int .i64 (-1)), (7, .int .i64 0), (8, .int .i64 1), (14, .bool false), (17, .slice (some ⟨A.nid, 0, none⟩) 2 2), (18, .int .i64 0), (21, .int .u8 (n / 256 % 256)), (22, .pointer (some ⟨A.nid, 0 + 0 * 1, none⟩)), (27, .bool true)]) (A2 := A3) rfl (by kernel_rfl) ?_
 refine EO.done rfl ?_
 refine J.cond true (by kernel_rfl) (fun _ => ?_) (fun h => Bool.noConfusion h)
 refine J.skip ?_
 refine thenJ_n ?_
 refine J.seq ?_
 refine J.block ?_
 refine J.region ?_
 refine EO.run 3 [0, 1, 4, 5, 6, 7, 8, 14, 17, 18, 21, 22, 27] (S2 := [(0, .int .u64 (n / 256 / 256)), (1, .int .i64 2), (4, .slice none 0 0), (5, .slice (some ⟨A.nid, 0, none⟩) 2 2), (6, .int .i64 (-1)), (7, .int .i64 1), (8, .int .i64 1), (14, .bool false), (17, .slice (some ⟨A.nid, 0, none⟩) 2 2), (18, .int .i64 0), (21, .int .u8 (n / 256 % 256)), (22, .pointer (some ⟨A.nid, 0 + 0 * 1, none⟩)), (27, .bool true)]) (A2 := A3) rfl (by kernel_rfl) ?_
 refine EO.done rfl ?_
 refine blockQ_n ?_
 refine thenJ_n ?_
 refine J.region ?_
 refine EO.run 3 [0, 1, 4, 5, 6, 7, 8, 14, 17, 18, 21, 22, 27] (S2 := [(0, .int .u64 (n / 256 / 256)), (1, .int .i64 2), (4, .slice none 0 0), (5, .slice (some ⟨A.nid, 0, none⟩) 2 2), (6, .int .i64 (-1)), (7, .int .i64 1), (8, .int .i64 2), (14, .bool false), (17, .slice (some ⟨A.nid, 0, none⟩) 2 2), (18, .int .i64 0), (21, .int .u8 (n / 256 % 256)), (22, .pointer (some ⟨A.nid, 0 + 0 * 1, none⟩)), (27, .bool true)]) (A2 := A3) rfl (by kernel_rfl) ?_
 refine EO.done rfl ?_
 refine loopQ_n ?_
 refine JL.step ?_
 refine J.seq ?_
 refine J.sr ?_
 refine EO.run 3 [0, 1, 4, 5, 6, 7, 8, 14, 17, 18, 21, 22, 27] (S2 := [(0, .int .u64 (n / 256 / 256)), (1, .int .i64 2), (4, .slice none 0 0), (5, .slice (some ⟨A.nid, 0, none⟩) 2 2), (6, .int .i64 (-1)), (7, .int .i64 1), (8, .int .i64 2), (14, .bool false), (17, .slice (some ⟨A.nid, 0, none⟩) 2 2), (18, .int .i64 0), (21, .int .u8 (n / 256 % 256)), (22, .pointer (some ⟨A.nid, 0 + 0 * 1, none⟩)), (27, .bool false)]) (A2 := A3) rfl (by kernel_rfl) ?_
 refine EO.done rfl ?_
 refine J.cond false (by kernel_rfl) (fun h => Bool.noConfusion h) (fun _ => ?_)
 refine J.exit ?_
 refine thenJ_e ?_
 refine loopQ_e ?_
 refine blockQ_hit ?_
 refine thenJ_n ?_
 refine J.sr ?_
 refine EO.run 2 [0, 1, 4, 5, 6, 7, 8, 14, 17, 18, 21, 22, 27, 32, 33] (S2 := [(0, .int .u64 (n / 256 / 256)), (1, .int .i64 2), (4, .slice none 0 0), (5, .slice (some ⟨A.nid, 0, none⟩) 2 2), (6, .int .i64 (-1)), (7, .int .i64 1), (8, .int .i64 2), (14, .bool false), (17, .slice (some ⟨A.nid, 0, none⟩) 2 2), (18, .int .i64 0), (21, .int .u8 (n / 256 % 256)), (22, .pointer (some ⟨A.nid, 0 + 0 * 1, none⟩)), (27, .bool false), (32, .slice (some ⟨A.nid, 0, none⟩) 2 2), (33, .slice (some ⟨A.nid, 0, none⟩) 2 2)]) (A2 := A3) rfl (by kernel_rfl) ?_
 refine EO.index (v := .slice (some ⟨A.nid, 0, none⟩) 2 2) (u := .int .i64 (Int.ofNat 0)) (w := .pointer (some ⟨A.nid, 0 + 0 * 1, none⟩)) rfl rfl rfl (by kernel_rfl) (by kernel_rfl) (by kernel_rfl) (aindexAddr_slice (elem := 5) (size := 1) (by kernel_rfl) (by kernel_rfl) (by decide)) ?_
 refine EO.load (ad := ⟨A.nid, 0 + 0 * 1, none⟩) (w := .int .u8 (n / 256 % 256)) rfl rfl rfl (by kernel_rfl) (by kernel_rfl) (hO3.row.load (by kernel_rfl) rfl) ?_
 refine EO.run 8 [0, 1, 4, 5, 6, 7, 8, 14, 17, 18, 21, 22, 27, 32, 39] (S2 := [(0, .int .u64 (n / 256 / 256)), (1, .int .i64 2), (4, .slice none 0 0), (5, .slice (some ⟨A.nid, 0, none⟩) 2 2), (6, .int .i64 (-1)), (7, .int .i64 1), (8, .int .i64 2), (14, .bool false), (17, .slice (some ⟨A.nid, 0, none⟩) 2 2), (18, .int .i64 0), (21, .int .u8 (n / 256 % 256)), (22, .pointer (some ⟨A.nid, 0 + 0 * 1, none⟩)), (27, .bool false), (32, .slice (some ⟨A.nid, 0, none⟩) 2 2), (39, .int .u8 (IntKind.wrap .u8 ((n / 256 % 256) + 64)))]) (A2 := A3) rfl (by kernel_rfl) ?_
 refine EO.cast (S2 := [(0, .int .u64 (n / 256 / 256)), (1, .int .i64 2), (4, .slice none 0 0), (5, .slice (some ⟨A.nid, 0, none⟩) 2 2), (6, .int .i64 (-1)), (7, .int .i64 1), (8, .int .i64 2), (14, .bool false), (17, .slice (some ⟨A.nid, 0, none⟩) 2 2), (18, .int .i64 0), (21, .int .u8 (n / 256 % 256)), (22, .pointer (some ⟨A.nid, 0 + 0 * 1, none⟩)), (27, .bool false), (32, .slice (some ⟨A.nid, 0, none⟩) 2 2), (39, .int .u8 (n / 256 % 256 + 64))]) (by rw [wrap_u8 (by omega) (by omega)]) ?_
 refine EO.index (v := .slice (some ⟨A.nid, 0, none⟩) 2 2) (u := .int .i64 (Int.ofNat 0)) (w := .pointer (some ⟨A.nid, 0 + 0 * 1, none⟩)) rfl rfl rfl (by kernel_rfl) (by kernel_rfl) (by kernel_rfl) (aindexAddr_slice (elem := 5) (size := 1) (by kernel_rfl) (by kernel_rfl) (by decide)) ?_
 obtain ⟨A4, hst3, hO4', hM3⟩ := hO3.store (P := Try.prog) hn3 (t := 5) (by kernel_rfl) (i := 0) (bl rfl) (z := n / 256 % 256 + 64) (by omega)
 have hn4 := hM3.nx
 have hO4 : Own A4 A.nid [n / 256 % 256 + 64, n % 256] := hO4'
 have hx4 := hx3.mod hM3 (by omega)
 refine EO.store (ad := ⟨A.nid, 0 + 0 * 1, none⟩) (u := .int .u8 (n / 256 % 256 + 64)) (A1 := A4) rfl rfl rfl (by kernel_rfl) (by kernel_rfl) (by kernel_rfl) hst3 ?_
 refine EO.done rfl ?_
 refine J.sr ?_
 refine EO.run 2 [0, 1, 4, 5, 6, 7, 8, 14, 17, 18, 21, 22, 27, 32, 39, 40] (S2 := [(0, .int .u64 (n / 256 / 256)), (1, .int .i64 2), (4, .slice (some ⟨A.nid, 0, none⟩) 2 2), (5, .slice (some ⟨A.nid, 0, none⟩) 2 2), (6, .int .i64 (-1)), (7, .int .i64 1), (8, .int .i64 2), (14, .bool false), (17, .slice (some ⟨A.nid, 0, none⟩) 2 2), (18, .int .i64 0), (21, .int .u8 (n / 256 % 256)), (22, .pointer (some ⟨A.nid, 0 + 0 * 1, none⟩)), (27, .bool false), (32, .slice (some ⟨A.nid, 0, none⟩) 2 2), (39, .int .u8 (n / 256 % 256 + 64)), (40, .pointer (some ⟨A.nid, 0 + 0 * 1, none⟩))]) (A2 := A4) rfl (by kernel_rfl) ?_
 refine EO.done rfl ?_
 refine J.ret ?_
 refine Ends_r (vs := [.slice (some ⟨A.nid, 0, none⟩) 2 2]) (by kernel_rfl) ?_
 exact ⟨rfl, hO4, hx4, hn4⟩
theorem f28_spec2 (hp : pre 28 = none) (n : Int) (hn : inC 2 n) (hnx : A.nx = none) :
  ∃ A', acall Try.prog pre dr 100000 (m + 1) 28 [.int .u64 n, .int .i64 4] A = some (.slice (some ⟨A.nid, 0, none⟩) 4 4, A') ∧ Own A' A.nid (encC 2 n) ∧ AExt A A' ∧ A'.nx = none := by
 suffices hs : ∃ v' A', acall Try.prog pre dr 100000 (m + 1) 28 [.int .u64 n, .int .i64 4] A = some (v', A') ∧ (v' = .slice (some ⟨A.nid, 0, none⟩) 4 4 ∧ Own A' A.nid (encC 2 n) ∧ AExt A A' ∧ A'.nx = none) by
  obtain ⟨v', A', e, rfl, h⟩ := hs
  exact ⟨A', e, h⟩
 have hn0 : 0 ≤ n ∧ n < 1073741824 := hn
 have hnid := nid_none hnx
 refine J.fn (fn := Try.f28) hp Try.func28 rfl (bl rfl) ?_
 refine J.sr ?_
 refine EO.run 1 [0, 1, 4] (S2 := [(0, .int .u64 n), (1, .int .i64 4), (4, .slice none 0 0)]) (A2 := A) rfl (by kernel_rfl) ?_
 refine EO.done rfl ?_
 refine J.sr ?_
 refine EO.run 1 [0, 1, 4, 9] (S2 := [(0, .int .u64 n), (1, .int .i64 4), (4, .slice none 0 0), (9, .int .i64 4)]) (A2 := A) rfl (by kernel_rfl) ?_
 obtain ⟨A1, hA1, hx1, hn1, hO1⟩ := new_zeros hnx [0, 0, 0, 0] (by intro z hz; simp at hz; omega)
 refine EO.run 2 [0, 1, 4, 9, 10] (S2 := [(0, .int .u64 n), (1, .int .i64 4), (4, .slice none 0 0), (9, .int .i64 4), (10, .slice (some ⟨A.nid, 0, none⟩) 4 4)]) (A2 := A.push (.cells (u8s [0, 0, 0, 0]) false false 1)) rfl (by kernel_rfl) ?_
 rw [hA1]
 refine EO.run 3 [0, 1, 4, 5] (S2 := [(0, .int .u64 n), (1, .int .i64 4), (4, .slice none 0 0), (5, .slice (some ⟨A.nid, 0, none⟩) 4 4)]) (A2 := A1) rfl (by kernel_rfl) ?_
 refine EO.done rfl ?_
 refine J.seq ?_
 refine J.sr ?_
 refine EO.run 3 [0, 1, 4, 5, 6] (S2 := [(0, .int .u64 n), (1, .int .i64 4), (4, .slice none 0 0), (5, .slice (some ⟨A.nid, 0, none⟩) 4 4), (6, .int .i64 3)]) (A2 := A1) rfl (by kernel_rfl) ?_
 refine EO.done rfl ?_
 refine J.block ?_
 refine J.unroll ?_
 refine JL.step ?_
 refine J.seq ?_
 refine J.sr ?_
 refine EO.run 2 [0, 1, 4, 5, 6, 14] (S2 := [(0, .int .u64 n), (1, .int .i64 4), (4, .slice none 0 0), (5, .slice (some ⟨A.nid, 0, none⟩) 4 4), (6, .int .i64 3), (14, .bool true)]) (A2 := A1) rfl (by kernel_rfl) ?_
 refine EO.done rfl ?_
 refine J.cond true (by kernel_rfl) (fun _ => ?_) (fun h => Bool.noConfusion h)
 refine J.skip ?_
 refine thenJ_n ?_
 refine J.seq ?_
 refine J.block ?_
 refine J.sr ?_
 refine EO.run 5 [0, 1, 4, 5, 6, 14, 17, 18, 21] (S2 := [(0, .int .u64 n), (1, .int .i64 4), (4, .slice none 0 0), (5, .slice (some ⟨A.nid, 0, none⟩) 4 4), (6, .int .i64 3), (14, .bool true), (17, .slice (some ⟨A.nid, 0, none⟩) 4 4), (18, .int .i64 3), (21, .int .u8 (IntKind.wrap .u8 (Int.tmod n 256)))]) (A2 := A1) rfl (by kernel_rfl) ?_
 refine EO.cast (S2 := [(0, .int .u64 n), (1, .int .i64 4), (4, .slice none 0 0), (5, .slice (some ⟨A.nid, 0, none⟩) 4 4), (6, .int .i64 3), (14, .bool true), (17, .slice (some ⟨A.nid, 0, none⟩) 4 4), (18, .int .i64 3), (21, .int .u8 (n % 256))]) (by rw [tmod256 (x := n) (by omega)]) ?_
 refine EO.index (v := .slice (some ⟨A.nid, 0, none⟩) 4 4) (u := .int .i64 (Int.ofNat 3)) (w := .pointer (some ⟨A.nid, 0 + 3 * 1, none⟩)) rfl rfl rfl (by kernel_rfl) (by kernel_rfl) (by kernel_rfl) (aindexAddr_slice (elem := 5) (size := 1) (by kernel_rfl) (by kernel_rfl) (by decide)) ?_
 obtain ⟨A2, hst1, hO2', hM1⟩ := hO1.store (P := Try.prog) hn1 (t := 5) (by kernel_rfl) (i := 3) (bl rfl) (z := n % 256) (by omega)
 have hn2 := hM1.nx
 have hO2 : Own A2 A.nid [0, 0, 0, n % 256] := hO2'
 have hx2 := hx1.mod hM1 (by omega)
 refine EO.store (ad := ⟨A.nid, 0 + 3 * 1, none⟩) (u := .int .u8 (n % 256)) (A1 := A2) rfl rfl rfl (by kernel_rfl) (by kernel_rfl) (by kernel_rfl) hst1 ?_
 refine EO.done rfl ?_
 refine J.region ?_
 refine EO.run 2 [0, 1, 4, 5, 6, 14, 17, 18, 21, 22, 24] (S2 := [(0, .int .u64 n), (1, .int .i64 4), (4, .slice none 0 0), (5, .slice (some ⟨A.nid, 0, none⟩) 4 4), (6, .int .i64 3), (14, .bool true), (17, .slice (some ⟨A.nid, 0, none⟩) 4 4), (18, .int .i64 3), (21, .int .u8 (n % 256)), (22, .pointer (some ⟨A.nid, 0 + 3 * 1, none⟩)), (24, .int .u64 (IntKind.wrap .u64 (Int.tdiv n 256)))]) (A2 := A2) rfl (by kernel_rfl) ?_
 refine EO.cast (S2 := [(0, .int .u64 n), (1, .int .i64 4), (4, .slice none 0 0), (5, .slice (some ⟨A.nid, 0, none⟩) 4 4), (6, .int .i64 3), (14, .bool true), (17, .slice (some ⟨A.nid, 0, none⟩) 4 4), (18, .int .i64 3), (21, .int .u8 (n % 256)), (22, .pointer (some ⟨A.nid, 0 + 3 * 1, none⟩)), (24, .int .u64 (n / 256))]) (by rw [tdiv256 (x := n) (by omega) (by omega)]) ?_
 refine EO.run 3 [0, 1, 4, 5, 6, 14, 17, 18, 21, 22] (S2 := [(0, .int .u64 (n / 256)), (1, .int .i64 4), (4, .slice none 0 0), (5, .slice (some ⟨A.nid, 0, none⟩) 4 4), (6, .int .i64 3), (14, .bool true), (17, .slice (some ⟨A.nid, 0, none⟩) 4 4), (18, .int .i64 3), (21, .int .u8 (n % 256)), (22, .pointer (some ⟨A.nid, 0 + 3 * 1, none⟩))]) (A2 := A2) rfl (by kernel_rfl) ?_
 refine EO.done rfl ?_
 refine blockQ_n ?_
 refine thenJ_n ?_
 refine J.region ?_
 refine EO.run 3 [0, 1, 4, 5, 6, 14, 17, 18, 21, 22] (S2 := [(0, .int .u64 (n / 256)), (1, .int .i64 4), (4, .slice none 0 0), (5, .slice (some ⟨A.nid, 0, none⟩) 4 4), (6, .int .i64 2), (14, .bool true), (17, .slice (some ⟨A.nid, 0, none⟩) 4 4), (18, .int .i64 3), (21, .int .u8 (n % 256)), (22, .pointer (some ⟨A.nid, 0 + 3 * 1, none⟩))]) (A2 := A2) rfl (by kernel_rfl) ?_
 refine EO.done rfl ?_
 refine loopQ_n ?_
 refine JL.step ?_
 refine J.seq ?_
 refine J.sr ?_
 refine EO.run 2 [0, 1, 4, 5, 6, 14, 17, 18, 21, 22] (S2 := [(0, .int .u64 (n / 256)), (1, .int .i64 4), (4, .slice none 0 0), (5, .slice (some ⟨A.nid, 0, none⟩) 4 4), (6, .int .i64 2), (14, .bool true), (17, .slice (some ⟨A.nid, 0, none⟩) 4 4), (18, .int .i64 3), (21, .int .u8 (n % 256)), (22, .pointer (some ⟨A.nid, 0 + 3 * 1, none⟩))]) (A2 := A2) rfl (by kernel_rfl) ?_
 refine EO.done rfl ?_
 refine J.cond true (by kernel_rfl) (fun _ => ?_) (fun h => Bool.noConfusion h)
 refine J.skip ?_
 refine thenJ_n ?_
 refine J.seq ?_
 refine J.block ?_
 refine J.sr ?_
 refine EO.run 5 [0, 1, 4, 5, 6, 14, 17, 18, 21, 22] (S2 := [(0, .int .u64 (n / 256)), (1, .int .i64 4), (4, .slice none 0 0), (5, .slice (some ⟨A.nid, 0, none⟩) 4 4), (6, .int .i64 2), (14, .bool true), (17, .slice (some ⟨A.nid, 0, none⟩) 4 4), (18, .int .i64 2), (21, .int .u8 (IntKind.wrap .u8 (Int.tmod (n / 256) 256))), (22, .pointer (some ⟨A.nid, 0 + 3 * 1, none⟩))]) (A2 := A2) rfl (by kernel_rfl) ?_
 refine EO.cast (S2 := [(0, .int .u64 (n / 256)), (1, .int .i64 4), (4, .slice none 0 0), (5, .slice (some ⟨A.nid, 0, none⟩) 4 4), (6, .int .i64 2), (14, .bool true), (17, .slice (some ⟨A.nid, 0, none⟩) 4 4), (18, .int .i64 2), (21, .int .u8 (n / 256 % 256)), (22, .pointer (some ⟨A.nid, 0 + 3 * 1, none⟩))]) (by rw [tmod256 (x := n / 256) (by omega)]) ?_
 refine EO.index (v := .slice (some ⟨A.nid, 0, none⟩) 4 4) (u := .int .i64 (Int.ofNat 2)) (w := .pointer (some ⟨A.nid, 0 + 2 * 1, none⟩)) rfl rfl rfl (by kernel_rfl) (by kernel_rfl) (by kernel_rfl) (aindexAddr_slice (elem := 5) (size := 1) (by kernel_rfl) (by kernel_rfl) (by decide)) ?_
 obtain ⟨A3, hst2, hO3', hM2⟩ := hO2.store (P := Try.prog) hn2 (t := 5) (by kernel_rfl) (i := 2) (bl rfl) (z := n / 256 % 256) (by omega)
 have hn3 := hM2.nx
 have hO3 : Own A3 A.nid [0, 0, n / 256 % 256, n % 256] := hO3'
 have hx3 := hx2.mod hM2 (by omega)
 refine EO.store (ad := ⟨A.nid, 0 + 2 * 1, none⟩) (u := .int .u8 (n / 256 % 256)) (A1 := A3) rfl rfl rfl (by kernel_rfl) (by kernel_rfl) (by kernel_rfl) hst2 ?_
 refine EO.done rfl ?_
 refine J.region ?_
 refine EO.run 2 [0, 1, 4, 5, 6, 14, 17, 18, 21, 22, 24] (S2 := [(0, .int .u64 (n / 256)), (1, .int .i64 4), (4, .slice none 0 0), (5, .slice (some ⟨A.nid, 0, none⟩) 4 4), (6, .int .i64 2), (14, .bool true), (17, .slice (some ⟨A.nid, 0, none⟩) 4 4), (18, .int .i64 2), (21, .int .u8 (n / 256 % 256)), (22, .pointer (some ⟨A.nid, 0 + 2 * 1, none⟩)), (24, .int .u64 (IntKind.wrap .u64 (Int.tdiv (n / 256) 256)))]) (A2 := A3) rfl (by kernel_rfl) ?_
 refine EO.cast (S2 := [(0, .int .u64 (n / 256)), (1, .int .i64 4), (4, .slice none 0 0), (5, .slice (some ⟨A.nid, 0, none⟩) 4 4), (6, .int .i64 2), (14, .bool true), (17, .slice (some ⟨A.nid, 0, none⟩) 4 4), (18, .int .i64 2), (21, .int .u8 (n / 256 % 256)), (22, .pointer (some ⟨A.nid, 0 + 2 * 1, none⟩)), (24, .int .u64 (n / 256 / 256))]) (by rw [tdiv256 (x := n / 256) (by omega) (by omega)]) ?_
 refine EO.run 3 [0, 1, 4, 5, 6, 14, 17, 18, 21, 22] (S2 := [(0, .int .u64 (n / 256 / 256)), (1, .int .i64 4), (4, .slice none 0 0), (5, .slice (some ⟨A.nid, 0, none⟩) 4 4), (6, .int .i64 2), (14, .bool true), (17, .slice (some ⟨A.nid, 0, none⟩) 4 4), (18, .int .i64 2), (21, .int .u8 (n / 256 % 256)), (22, .pointer (some ⟨A.nid, 0 + 2 * 1, none⟩))]) (A2 := A3) rfl (by kernel_rfl) ?_
 refine EO.done rfl ?_
 refine blockQ_n ?_
 refine thenJ_n ?_
 refine J.region ?_
 refine EO.run 3 [0, 1, 4, 5, 6, 14, 17, 18, 21, 22] (S2 := [(0, .int .u64 (n / 256 / 256)), (1, .int .i64 4), (4, .slice none 0 0), (5, .slice (some ⟨A.nid, 0, none⟩) 4 4), (6, .int .i64 1), (14, .bool true), (17, .slice (some ⟨A.nid, 0, none⟩) 4 4), (18, .int .i64 2), (21, .int .u8 (n / 256 % 256)), (22, .pointer (some ⟨A.nid, 0 + 2 * 1, none⟩))]) (A2 := A3) rfl (by kernel_rfl) ?_
 refine EO.done rfl ?_
 refine loopQ_n ?_
 refine JL.step ?_
 refine J.seq ?_
 refine J.sr ?_
 refine EO.run 2 [0, 1, 4, 5, 6, 14, 17, 18, 21, 22] (S2 := [(0, .int .u64 (n / 256 / 256)), (1, .int .i64 4), (4, .slice none 0 0), (5, .slice (some ⟨A.nid, 0, none⟩) 4 4), (6, .int .i64 1), (14, .bool true), (17, .slice (some ⟨A.nid, 0, none⟩) 4 4), (18, .int .i64 2), (21, .int .u8 (n / 256 % 256)), (22, .pointer (some ⟨A.nid, 0 + 2 * 1, none⟩))]) (A2 := A3) rfl (by kernel_rfl) ?_
 refine EO.done rfl ?_
 refine J.cond true (by kernel_rfl) (fun _ => ?_) (fun h => Bool.noConfusion h)
 refine J.skip ?_
 refine thenJ_n ?_
 refine J.seq ?_
 refine J.block ?_
 refine J.sr ?_
 refine EO.run 5 [0, 1, 4, 5, 6, 14, 17, 18, 21, 22] (S2 := [(0, .int .u64 (n / 256 / 256)), (1, .int .i64 4), (4, .slice none 0 0), (5, .slice (some ⟨A.nid, 0, none⟩) 4 4), (6, .int .i64 1), (14, .bool true), (17, .slice (some ⟨A.nid, 0, none⟩) 4 4), (18, .int .i64 1), (21, .int .u8 (IntKind.wrap .u8 (Int.tmod (n / 256 / 256) 256))), (22, .pointer (some ⟨A.nid, 0 + 2 * 1, none⟩))]) (A2 := A3) rfl (by kernel_rfl) ?_
 refine EO.cast (S2 := [(0, .int .u64 (n / 256 / 256)), (1, .int .i64 4), (4, .slice none 0 0), (5, .slice (some ⟨A.nid, 0, none⟩) 4 4), (6, .int .i64 1), (14, .bool true), (17, .slice (some ⟨A.nid, 0, none⟩) 4 4), (18, .int .i64 1), (21, .int .u8 (n / 256 / 256 % 256)), (22, .pointer (some ⟨A.nid, 0 + 2 * 1, none⟩))]) (by rw [tmod256 (x := n / 256 / 256) (by omega)]) ?_
 refine EO.index (v := .slice (some ⟨A.nid, 0, none⟩) 4 4) (u := .int .i64 (Int.ofNat 1)) (w := .pointer (some ⟨A.nid, 0 + 1 * 1, none⟩)) rfl rfl rfl (by kernel_rfl) (by kernel_rfl) (by kernel_rfl) (aindexAddr_slice (elem := 5) (size := 1) (by kernel_rfl) (by kernel_rfl) (by decide)) ?_
 obtain ⟨A4, hst3, hO4', hM3⟩ := hO3.store (P := Try.prog) hn3 (t := 5) (by kernel_rfl) (i := 1) (bl rfl) (z := n / 256 / 256 % 256) (by omega)
 have hn4 := hM3.nx
 have hO4 : Own A4 A.nid [0, n / 256 / 256 % 256, n / 256 % 256, n % 256] := hO4'
 have hx4 := hx3.mod hM3 (by omega)
 refine EO.store (ad := ⟨A.nid, 0 + 1 * 1, none⟩) (u := .int .u8 (n / 256 / 256 % 256)) (A1 := A4) rfl rfl rfl (by kernel_rfl) (by kernel_rfl) (by kernel_rfl) hst3 ?_
 refine EO.done rfl ?_
 refine J.region ?_
 refine EO.run 2 [0, 1, 4, 5, 6, 14, 17, 18, 21, 22, 24] (S2 := [(0, .int .u64 (n / 256 / 256)), (1, .int .i64 4), (4, .slice none 0 0), (5, .slice (some ⟨A.nid, 0, none⟩) 4 4), (6, .int .i64 1), (14, .bool true), (17, .slice (some ⟨A.nid, 0, none⟩) 4 4), (18, .int .i64 1), (21, .int .u8 (n / 256 / 256 % 256)), (22, .pointer (some ⟨A.nid, 0 + 1 * 1, none⟩)), (24, .int .u64 (IntKind.wrap .u64 (Int.tdiv (n / 256 / 256) 256)))]) (A2 := A4) rfl (by kernel_rfl) ?_
 refine EO.cast (S2 := [(0, .int .u64 (n / 256 / 256)), (1, .int .i64 4), (4, .slice none 0 0), (5, .slice (some ⟨A.nid, 0, none⟩) 4 4), (6, .int .i64 1), (14, .bool true), (17, .slice (some ⟨A.nid, 0, none⟩) 4 4), (18, .int .i64 1), (21, .int .u8 (n / 256 / 256 % 256)), (22, .pointer (some ⟨A.nid, 0 + 1 * 1, none⟩)), (24, .int .u64 (n / 256 / 256 / 256))]) (by rw [tdiv256 (x := n / 256 / 256) (by omega) (by omega)]) ?_
 refine EO.run 3 [0, 1, 4, 5, 6, 14, 17, 18, 21, 22] (S2 := [(0, .int .u64 (n / 256 / 256 / 256)), (1, .int .i64 4), (4, .slice none 0 0), (5, .slice (some ⟨A.nid, 0, none⟩) 4 4), (6, .int .i64 1), (14, .bool true), (17, .slice (some ⟨A.nid, 0, none⟩) 4 4), (18, .int .i64 1), (21, .int .u8 (n / 256 / 256 % 256)), (22, .pointer (some ⟨A.nid, 0 + 1 * 1, none⟩))]) (A2 := A4) rfl (by kernel_rfl) ?_
 refine EO.done rfl ?_
 refine blockQ_n ?_
 refine thenJ_n ?_
 refine J.region ?_
 refine EO.run 3 [0, 1, 4, 5, 6, 14, 17, 18, 21, 22] (S2 := [(0, .int .u64 (n / 256 / 256 / 256)), (1, .int .i64 4), (4, .slice none 0 0), (5, .slice (some ⟨A.nid, 0, none⟩) 4 4), (6, .int .i64 0), (14, .bool true), (17, .slice (some ⟨A.nid, 0, none⟩) 4 4), (18, .int .i64 1), (21, .int .u8 (n / 256 / 256 % 256)), (22, .pointer (some ⟨A.nid, 0 + 1 * 1, none⟩))]) (A2 := A4) rfl (by kernel_rfl) ?_
 refine EO.done rfl ?_
 refine loopQ_n ?_
 refine JL.step ?_
 refine J.seq ?_
 refine J.sr ?_
 refine EO.run 2 [0, 1, 4, 5, 6, 14, 17, 18, 21, 22] (S2 := [(0, .int .u64 (n / 256 / 256 / 256)), (1, .int .i64 4), (4, .slice none 0 0), (5, .slice (some ⟨A.nid, 0, none⟩) 4 4), (6, .int .i64 0), (14, .bool true), (17, .slice (some ⟨A.nid, 0, none⟩) 4 4), (18, .int .i64 1), (21, .int .u8 (n / 256 / 256 % 256)), (22, .pointer (some ⟨A.nid, 0 + 1 * 1, none⟩))]) (A2 := A4) rfl (by kernel_rfl) ?_
 refine EO.done rfl ?_
 refine J.cond true (by kernel_rfl) (fun _ => ?_) (fun h => Bool.noConfusion h)
 refine J.skip ?_
 refine thenJ_n ?_
 refine J.seq ?_
 refine J.block ?_
 refine J.sr ?_
 refine EO.run 5 [0, 1, 4, 5, 6, 14, 17, 18, 21, 22] (S2 := [(0, .int .u64 (n / 256 / 256 / 256)), (1, .int .i64 4), (4, .slice none 0 0), (5, .slice (some ⟨A.nid, 0, none⟩) 4 4), (6, .int .i64 0), (14, .bool true), (17, .slice (some ⟨A.nid, 0, none⟩) 4 4), (18, .int .i64 0), (21, .int .u8 (IntKind.wrap .u8 (Int.tmod (n / 256 / 256 / 256) 256))), (22, .pointer (some ⟨A.nid, 0 + 1 * 1, none⟩))]) (A2 := A4) rfl (by kernel_rfl) ?_
 refine EO.cast (S2 := [(0, .int .u64 (n / 256 / 256 / 256)), (1, .int .i64 4), (4, .slice none 0 0), (5, .slice (some ⟨A.nid, 0, none⟩) 4 4), (6, .int .i64 0), (14, .bool true), (17, .slice (some ⟨A.nid, 0, none⟩) 4 4), (18, .int .i64 0), (21, .int .u8 (n / 256 / 256 / 256 % 256)), (22, .pointer (some ⟨A.nid, 0 + 1 * 1, none⟩))]) (by rw [tmod256 (x := n / 256 / 256 / 256) (by omega)]) ?_
 refine EO.index (v := .slice (some ⟨A.nid, 0, none⟩) 4 4) (u := .int .i64 (Int.ofNat 0)) (w := .pointer (some ⟨A.nid, 0 + 0 * 1, none⟩)) rfl rfl rfl (by kernel_rfl) (by kernel_rfl) (by kernel_rfl) (aindexAddr_slice (elem := 5) (size := 1) (by kernel_rfl) (by kernel_rfl) (by decide)) ?_
 obtain ⟨A5, hst4, hO5', hM4⟩ := hO4.store (P := Try.prog) hn4 (t := 5) (by kernel_rfl) (i := 0) (bl rfl) (z := n / 256 / 256 / 256 % 256) (by omega)
 have hn5 := hM4.nx
 have hO5 : Own A5 A.nid [n / 256 / 256 / 256 % 256, n / 256 / 256 % 256, n / 256 % 256, n % 256] := hO5'
 have hx5 := hx4.mod hM4 (by omega)
 refine EO.store (ad := ⟨A.nid, 0 + 0 * 1, none⟩) (u := .int .u8 (n / 256 / 256 / 256 % 256)) (A1 := A5) rfl rfl rfl (by kernel_rfl) (by kernel_rfl) (by kernel_rfl) hst4 ?_
 refine EO.done rfl ?_
 refine J.region ?_
 refine EO.run 2 [0, 1, 4, 5, 6, 14, 17, 18, 21, 22, 24] (S2 := [(0, .int .u64 (n / 256 / 256 / 256)), (1, .int .i64 4), (4, .slice none 0 0), (5, .slice (some ⟨A.nid, 0, none⟩) 4 4), (6, .int .i64 0), (14, .bool true), (17, .slice (some ⟨A.nid, 0, none⟩) 4 4), (18, .int .i64 0), (21, .int .u8 (n / 256 / 256 / 256 % 256)), (22, .pointer (some ⟨A.nid, 0 + 0 * 1, none⟩)), (24, .int .u64 (IntKind.wrap .u64 (Int.tdiv (n / 256 / 256 / 256) 256)))]) (A2 := A5) rfl (by kernel_rfl) ?_
 refine EO.cast (S2 := [(0, .int .u64 (n / 256 / 256 / 256)), (1, .int .i64 4), (4, .slice none 0 0), (5, .slice (some ⟨A.nid, 0, none⟩) 4 4), (6, .int .i64 0), (14, .bool true), (17, .slice (some ⟨A.nid, 0, none⟩) 4 4), (18, .int .i64 0), (21, .int .u8 (n / 256 / 256 / 256 % 256)), (22, .pointer (some ⟨A.nid, 0 + 0 * 1, none⟩)), (24, .int .u64 (n / 256 / 256 / 256 / 256))]) (by rw [tdiv256 (x := n / 256 / 256 / 256) (by omega) (by omega)]) ?_
 refine EO.run 3 [0, 1, 4, 5, 6, 14, 17, 18, 21, 22] (S2 := [(0, .int .u64 (n / 256 / 256 / 256 / 256)), (1, .int .i64 4), (4, .slice none 0 0), (5, .slice (some ⟨A.nid, 0, none⟩) 4 4), (6, .int .i64 0), (14, .bool true), (17, .slice (some ⟨A.nid, 0, none⟩) 4 4), (18, .int .i64 0), (21, .int .u8 (n / 256 / 256 / 256 % 256)), (22, .pointer (some ⟨A.nid, 0 + 0 * 1, none⟩))]) (A2 := A5) rfl (by kernel_rfl) ?_
 refine EO.done rfl ?_
 refine blockQ_n ?_
 refine thenJ_n ?_
 refine J.region ?_
 refine EO.run 3 [0, 1, 4, 5, 6, 14, 17, 18, 21, 22] (S2 := [(0, .int .u64 (n / 256 / 256 / 256 / 256)), (1, .int .i64 4), (4, .slice none 0 0), (5, .slice (some ⟨A.nid, 0, none⟩) 4 4), (6, .int .i64 (-1)), (14, .bool true), (17, .slice (some ⟨A.nid, 0, none⟩) 4 4), (18, .int .i64 0), (21, .int .u8 (n / 256 / 256 / 256 % 256)), (22, .pointer (some ⟨A.nid, 0 + 0 * 1, none⟩))]) (A2 := A5) rfl (by kernel_rfl) ?_
 refine EO.done rfl ?_
 refine loopQ_n ?_
 refine JL.step ?_
 refine J.seq ?_
 refine J.sr ?_
 refine EO.run 2 [0, 1, 4, 5, 6, 14, 17, 18, 21, 22] (S2 := [(0, .int .u64 (n / 256 / 256 / 256 / 256)), (1, .int .i64 4), (4, .slice none 0 0), (5, .slice (some ⟨A.nid, 0, none⟩) 4 4), (6, .int .i64 (-1)), (14, .bool false), (17, .slice (some ⟨A.nid, 0, none⟩) 4 4), (18, .int .i64 0), (21, .int .u8 (n / 256 / 256 / 256 % 256)), (22, .pointer (some ⟨A.nid, 0 + 0 * 1, none⟩))]) (A2 := A5) rfl (by kernel_rfl) ?_
 refine EO.done rfl ?_
 refine J.cond false (by kernel_rfl) (fun h => Bool.noConfusion h) (fun _ => ?_)
 refine J.exit ?_
 refine thenJ_e ?_
 refine loopQ_e ?_
 refine blockQ_hit ?_
 refine thenJ_n ?_
 refine J.sr ?_
 refine EO.run 1 [0, 1, 4, 5, 6, 7, 14, 17, 18, 21, 22] (S2 := [(0, .int .u64 (n / 256 / 256 / 256 / 256)), (1, .int .i64 4), (4, .slice none 0 0), (5, .slice (some ⟨A.nid, 0, none⟩) 4 4), (6, .int .i64 (-1)), (7, .int .i64 0), (14, .bool false), (17, .slice (some ⟨A.nid, 0, none⟩) 4 4), (18, .int .i64 0), (21, .int .u8 (n / 256 / 256 / 256 % 256)), (22, .pointer (some ⟨A.nid, 0 + 0 * 1, none⟩))]) (A2 := A5) rfl (by kernel_rfl) ?_
 refine EO.done rfl ?_
 refine J.seq ?_
 refine J.sr ?_
 refine EO.run 1 [0, 1, 4, 5, 6, 7, 8, 14, 17, 18, 21, 22] (S2 := [(0, .int .u64 (n / 256 / 256 / 256 / 256)), (1, .int .i64 4), (4, .slice none 0 0), (5, .slice (some ⟨A.nid, 0, none⟩) 4 4), (6, .int .i64 (-1)), (7, .int .i64 0), (8, .int .i64 1), (14, .bool false), (17, .slice (some ⟨A.nid, 0, none⟩) 4 4), (18, .int .i64 0), (21, .int .u8 (n / 256 / 256 / 256 % 256)), (22, .pointer (some ⟨A.nid, 0 + 0 * 1, none⟩))]) (A2 := A5) rfl (by kernel_rfl) ?_
 refine EO.done rfl ?_
 refine J.block ?_
 refine J.unroll ?_
 refine JL.step ?_
 refine J.seq ?_
 refine J.sr ?_
 refine EO.run 3 [0, 1, 4, 5, 6, 7, 8, 14, 17, 18, 21, 22, 27] (S2 := [(0, .int .u64 (n / 256 / 256 / 256 / 256)), (1, .int .i64 4), (4, .slice none 0 0), (5, .slice (some ⟨A.nid, 0, none⟩) 4 4), (6, .int .i64 (-1)), (7, .int .i64 0), (8, .int .i64 1), (14, .bool false), (17, .slice (some ⟨A.nid, 0, none⟩) 4 4), (18, .int .i64 0), (21, .int .u8 (n / 256 / 256 / 256 % 256)), (22, .pointer (some ⟨A.nid, 0 + 0 * 1, none⟩)), (27, .bool true)]) (A2 := A5) rfl (by kernel_rfl) ?_
 refine EO.done rfl ?_
 refine J.cond true (by kernel_rfl) (fun _ => ?_) (fun h => Bool.noConfusion h)
 refine J.skip ?_
 refine thenJ_n ?_
 refine J.seq ?_
 refine J.block ?_
 refine J.region ?_
 refine EO.run 3 [0, 1, 4, 5, 6, 7, 8, 14, 17, 18, 21, 22, 27] (S2 := [(0, .int .u64 (n / 256 / 256 / 256 / 256)), (1, .int .i64 4), (4, .slice none 0 0), (5, .slice (some ⟨A.nid, 0, none⟩) 4 4), (6, .int .i64 (-1)), (7, .int .i64 1), (8, .int .i64 1), (14, .bool false), (17, .slice (some ⟨A.nid, 0, none⟩) 4 4), (18, .int .i64 0), (21, .int .u8 (n / 256 / 256 / 256 % 256)), (22, .pointer (some ⟨A.nid, 0 + 0 * 1, none⟩)), (27, .bool true)]) (A2 := A5) rfl (by kernel_rfl) ?_
 refine EO.done rfl ?_
 refine blockQ_n ?_
 refine thenJ_n ?_
 refine J.region ?_
 refine EO.run 3 [0, 1, 4, 5, 6, 7, 8, 14, 17, 18, 21, 22, 27] (S2 := [(0, .int .u64 (n / 256 / 256 / 256 / 256)), (1, .int .i64 4), (4, .slice none 0 0), (5, .slice (some ⟨A.nid, 0, none⟩) 4 4), (6, .int .i64 (-1)), (7, .int .i64 1), (8, .int .i64 2), (14, .bool false), (17, .slice (some ⟨A.nid, 0, none⟩) 4 4), (18, .int .i64 0), (21, .int .u8 (n / 256 / 256 / 256 % 256)), (22, .pointer (some ⟨A.nid, 0 + 0 * 1, none⟩)), (27, .bool true)]) (A2 := A5) rfl (by kernel_rfl) ?_
 refine EO.done rfl ?_
 refine loopQ_n ?_
 refine JL.step ?_
 refine J.seq ?_
 refine J.sr ?_
 refine EO.run 3 [0, 1, 4, 5, 6, 7, 8, 14, 17, 18, 21, 22, 27] (S2 := [(0, .int .u64 (n / 256 / 256 / 256 / 256)), (1, .int .i64 4), (4, .slice none 0 0), (5, .slice (some ⟨A.nid, 0, none⟩) 4 4), (6, .int .i64 (-1)), (7, .int .i64 1), (8, .int .i64 2), (14, .bool false), (17, .slice (some ⟨A.nid, 0, none⟩) 4 4), (18, .int .i64 0), (21, .int .u8 (n / 256 / 256 / 256 % 256)), (22, .pointer (some ⟨A.nid, 0 + 0 * 1, none⟩)), (27, .bool true)]) (A2 := A5) rfl (by kernel_rfl) ?_
 refine EO.done rfl ?_
 refine J.cond true (by kernel_rfl) (fun _ => ?_) (fun h => Bool.noConfusion h)
 refine J.skip ?_
 refine thenJ_n ?_
 refine J.seq ?_
 refine J.block ?_
 refine J.region ?_
 refine EO.run 3 [0, 1, 4, 5, 6, 7, 8, 14, 17, 18, 21, 22, 27] (S2 := [(0, .int .u64 (n / 256 / 256 / 256 / 256)), (1, .int .i64 4), (4, .slice none 0 0), (5, .slice (some ⟨A.nid, 0, none⟩) 4 4), (6, .int .i64 (-1)), (7, .int .i64 2), (8, .int .i64 2), (14, .bool false), (17, .slice (some ⟨A.nid, 0, none⟩) 4 4), (18, .int .i64 0), (21, .int .u8 (n / 256 / 256 / 256 % 256)), (22, .pointer (some ⟨A.nid, 0 + 0 * 1, none⟩)), (27, .bool true)]) (A2 := A5) rfl (by kernel_rfl) ?_
 refine EO.done rfl ?_
 refine blockQ_n ?_
 refine thenJ_n ?_
 refine J.region ?_
 refine EO.run 3 [0, 1, 4, 5, 6, 7, 8, 14, 17, 18, 21, 22, 27] (S2 := [(0, .int .u64 (n / 256 / 256 / 256 / 256)), (1, .int .i64 4), (4, .slice none 0 0), (5, .slice (some ⟨A.nid, 0, none⟩) 4 4), (6, .int .i64 (-1)), (7, .int .i64 2), (8, .int .i64 4), (14, .bool false), (17, .slice (some ⟨A.nid, 0, none⟩) 4 4), (18, .int .i64 0), (21, .int .u8 (n / 256 / 256 / 256 % 256)), (22, .pointer (some ⟨A.nid, 0 + 0 * 1, none⟩)), (27, .bool true)]) (A2 := A5) rfl (by kernel_rfl) ?_
 refine EO.done rfl ?_
 refine loopQ_n ?_
 refine JL.step ?_
 refine J.seq ?_
 refine J.sr ?_
 refine EO.run 3 [0, 1, 4, 5, 6, 7, 8, 14, 17, 18, 21, 22, 27] (S2 := [(0, .int .u64 (n / 256 / 256 / 256 / 256)), (1, .int .i64 4), (4, .slice none 0 0), (5, .slice (some ⟨A.nid, 0, none⟩) 4 4), (6, .int .i64 (-1)), (7, .int .i64 2), (8, .int .i64 4), (14, .bool false), (17, .slice (some ⟨A.nid, 0, none⟩) 4 4), (18, .int .i64 0), (21, .int .u8 (n / 256 / 256 / 256 % 256)), (22, .pointer (some ⟨A.nid, 0 + 0 * 1, none⟩)), (27, .bool false)]) (A2 := A5) rfl (by kernel_rfl) ?_
 refine EO.done rfl ?_
 refine J.cond false (by kernel_rfl) (fun h => Bool.noConfusion h) (fun _ => ?_)
 refine J.exit ?_
 refine thenJ_e ?_
 refine loopQ_e ?_
 refine blockQ_hit ?_
 refine thenJ_n ?_
 refine J.sr ?_
 refine EO.run 2 [0, 1, 4, 5, 6, 7, 8, 14, 17, 18, 21, 22, 27, 32, 33] (S2 := [(0, .int .u64 (n / 256 / 256 / 256 / 256)), (1, .int .i64 4), (4, .slice none 0 0), (5, .slice (some ⟨A.nid, 0, none⟩) 4 4), (6, .int .i64 (-1)), (7, .int .i64 2), (8, .int .i64 4), (14, .bool false), (17, .slice (some ⟨A.nid, 0, none⟩) 4 4), (18, .int .i64 0), (21, .int .u8 (n / 256 / 256 / 256 % 256)), (22, .pointer (some ⟨A.nid, 0 + 0 * 1, none⟩)), (27, .bool false), (32, .slice (some ⟨A.nid, 0, none⟩) 4 4), (33, .slice (some ⟨A.nid, 0, none⟩) 4 4)]) (A2 := A5) rfl (by kernel_rfl) ?_
 refine EO.index (v := .slice (some ⟨A.nid, 0, none⟩) 4 4) (u := .int .i64 (Int.ofNat 0)) (w := .pointer (some ⟨A.nid, 0 + 0 * 1, none⟩)) rfl rfl rfl (by kernel_rfl) (by kernel_rfl) (by kernel_rfl) (aindexAddr_slice (elem := 5) (size := 1) (by kernel_rfl) (by kernel_rfl) (by decide)) ?_
 refine EO.load (ad := ⟨A.nid, 0 + 0 * 1, none⟩) (w := .int .u8 (n / 256 / 256 / 256 % 256)) rfl rfl rfl (by kernel_rfl) (by kernel_rfl) (hO5.row.load (by kernel_rfl) rfl) ?_
 refine EO.run 8 [0, 1, 4, 5, 6, 7, 8, 14, 17, 18, 21, 22, 27, 32, 39] (S2 := [(0, .int .u64 (n / 256 / 256 / 256 / 256)), (1, .int .i64 4), (4, .slice none 0 0), (5, .slice (some ⟨A.nid, 0, none⟩) 4 4), (6, .int .i64 (-1)), (7, .int .i64 2), (8, .int .i64 4), (14, .bool false), (17, .slice (some ⟨A.nid, 0, none⟩) 4 4), (18, .int .i64 0), (21, .int .u8 (n / 256 / 256 / 256 % 256)), (22, .pointer (some ⟨A.nid, 0 + 0 * 1, none⟩)), (27, .bool false), (32, .slice (some ⟨A.nid, 0, none⟩) 4 4), (39, .int .u8 (IntKind.wrap .u8 ((n / 256 / 256 / 256 % 256) + 128)))]) (A2 := A5) rfl (by kernel_rfl) ?_
 refine EO.cast (S2 := [(0, .int .u64 (n / 256 / 256 / 256 / 256)), (1, .int .i64 4), (4, .slice none 0 0), (5, .slice (some ⟨A.nid, 0, none⟩) 4 4), (6, .int .i64 (-1)), (7, .int .i64 2), (8, .int .i64 4), (14, .bool false), (17, .slice (some ⟨A.nid, 0, none⟩) 4 4), (18, .int .i64 0), (21, .int .u8 (n / 256 / 256 / 256 % 256)), (22, .pointer (some ⟨A.nid, 0 + 0 * 1, none⟩)), (27, .bool false), (32, .slice (some ⟨A.nid, 0, none⟩) 4 4), (39, .int .u8 (n / 256 / 256 / 256 % 256 + 128))]) (by rw [wrap_u8 (by omega) (by omega)]) ?_
 refine EO.index (v := .slice (some ⟨A.nid, 0, none⟩) 4 4) (u := .int .i64 (Int.ofNat 0)) (w := .pointer (some ⟨A.nid, 0 + 0 * 1, none⟩)) rfl rfl rfl (by kernel_rfl) (by kernel_rfl) (by kernel_rfl) (aindexAddr_slice (elem := 5) (size := 1) (by kernel_rfl) (by kernel_rfl) (by decide)) ?_
 obtain ⟨A6, hst5, hO6', hM5⟩ := hO5.store (P := Try.prog) hn5 (t := 5) (by kernel_rfl) (i := 0) (bl rfl) (z := n / 256 / 256 / 256 % 256 + 128) (by omega)
 have hn6 := hM5.nx
 have hO6 : Own A6 A.nid [n / 256 / 256 / 256 % 256 + 128, n / 256 / 256 % 256, n / 256 % 256, n % 256] := hO6'
 have hx6 := hx5.mod hM5 (by omega)
 refine EO.store (ad := ⟨A.nid, 0 + 0 * 1, none⟩) (u := .int .u8 (n / 256 / 256 / 256 % 256 + 128)) (A1 := A6) rfl rfl rfl (by kernel_rfl) (by kernel_rfl) (by kernel_rfl) hst5 ?_
 refine EO.done rfl ?_
 refine J.sr ?_
 refine EO.run 2 [0, 1, 4, 5, 6, 7, 8, 14, 17, 18, 21, 22, 27, 32, 39, 40] (S2 := [(0, .int .u64 (n / 256 / 256 / 256 / 256)), (1, .int .i64 4), (4, .slice (some ⟨A.nid, 0, none⟩) 4 4), (5, .slice (some ⟨A.nid, 0, none⟩) 4 4), (6, .int .i64 (-1)), (7, .int .i64 2), (8, .int .i64 4), (14, .bool false), (17, .slice (some ⟨A.nid, 0, none⟩) 4 4), (18, .int .i64 0), (21, .int .u8 (n / 256 / 256 / 256 % 256)), (22, .pointer (some ⟨A.nid, 0 + 0 * 1, none⟩)), (27, .bool false), (32, .slice (some ⟨A.nid, 0, none⟩) 4 4), (39, .int .u8 (n / 256 / 256 / 256 % 256 + 128)), (40, .pointer (some ⟨A.nid, 0 + 0 * 1, none⟩))]) (A2 := A6) rfl (by kernel_rfl) ?_
 refine EO.done rfl ?_
 refine J.ret ?_
 refine Ends_r (vs := [.slice (some ⟨A.nid, 0, none⟩) 4 4]) (by kernel_rfl) ?_
 exact ⟨rfl, hO6, hx6, hn6⟩
theorem f28_spec3 (hp : pre 28 = none) (n : Int) (hn : inC 3 n) (hnx : A.nx = none) :
  ∃ A', acall Try.prog pre dr 100000 (m + 1) 28 [.int .u64 n, .int .i64 8] A = some (.slice (some ⟨A.nid, 0, none⟩) 8 8, A') ∧ Own A' A.nid (encC 3 n) ∧ AExt A A' ∧ A'.nx = none := by
 suffices hs : ∃ v' A', acall Try.prog pre dr 100000 (m + 1) 28 [.int .u64 n, .int .i64 8] A = some (v', A') ∧ (v' = .slice (some ⟨A.nid, 0, none⟩) 8 8 ∧ Own A' A.nid (encC 3 n) ∧ AExt A A' ∧ A'.nx = none) by
  obtain ⟨v', A', e, rfl, h⟩ := hs
  exact ⟨A', e, h⟩
 have hn0 : 0 ≤ n ∧ n < 4611686018427387904 := hn
 have hnid := nid_none hnx
 refine J.fn (fn := Try.f28) hp Try.func28 rfl (bl rfl) ?_
 refine J.sr ?_
 refine EO.run 1 [0, 1, 4] (S2 := [(0, .int .u64 n), (1, .int .i64 8), (4, .slice none 0 0)]) (A2 := A) rfl (by kernel_rfl) ?_
 refine EO.done rfl ?_
 refine J.sr ?_
 refine EO.run 1 [0, 1, 4, 9] (S2 := [(0, .int .u64 n), (1, .int .i64 8), (4, .slice none 0 0), (9, .int .i64 8)]) (A2 := A) rfl (by kernel_rfl) ?_
 obtain ⟨A1, hA1, hx1, hn1, hO1⟩ := new_zeros hnx [0, 0, 0, 0, 0, 0, 0, 0] (by intro z hz; simp at hz; omega)
 refine EO.run 2 [0, 1, 4, 9, 10] (S2 := [(0, .int .u64 n), (1, .int .i64 8), (4, .slice none 0 0), (9, .int .i64 8), (10, .slice (some ⟨A.nid, 0, none⟩) 8 8)]) (A2 := A.push (.cells (u8s [0, 0, 0, 0, 0, 0, 0, 0]) false false 1)) rfl (by kernel_rfl) ?_
 rw [hA1]
 refine EO.run 3 [0, 1, 4, 5] (S2 := [(0, .int .u64 n), (1, .int .i64 8), (4, .slice none 0 0), (5, .slice (some ⟨A.nid, 0, none⟩) 8 8)]) (A2 := A1) rfl (by kernel_rfl) ?_
 refine EO.done rfl ?_
 refine J.seq ?_
 refine J.sr ?_
 refine EO.run 3 [0, 1, 4, 5, 6] (S2 := [(0, .int .u64 n), (1, .int .i64 8), (4, .slice none 0 0), (5, .slice (some ⟨A.nid, 0, none⟩) 8 8), (6, .int .i64 7)]) (A2 := A1) rfl (by kernel_rfl) ?_
 refine EO.done rfl ?_
 refine J.block ?_
 refine J.unroll ?_
 refine JL.step ?_
 refine J.seq ?_
 refine J.sr ?_
 refine EO.run 2 [0, 1, 4, 5, 6, 14] (S2 := [(0, .int .u64 n), (1, .int .i64 8), (4, .slice none 0 0), (5, .slice (some ⟨A.nid, 0, none⟩) 8 8), (6, .int .i64 7), (14, .bool true)]) (A2 := A1) rfl (by kernel_rfl) ?_
 refine EO.done rfl ?_
 refine J.cond true (by kernel_rfl) (fun _ => ?_) (fun h => Bool.noConfusion h)
 refine J.skip ?_
 refine thenJ_n ?_
 refine J.seq ?_
 refine J.block ?_
 refine J.sr ?_
 refine EO.run 5 [0, 1, 4, 5, 6, 14, 17, 18, 21] (S2 := [(0, .int .u64 n), (1, .int .i64 8), (4, .slice none 0 0), (5, .slice (some ⟨A.nid, 0, none⟩) 8 8), (6, .int .i64 7), (14, .bool true), (17, .slice (some ⟨A.nid, 0, none⟩) 8 8), (18, .int .i64 7), (21, .int .u8 (IntKind.wrap .u8 (Int.tmod n 256)))]) (A2 := A1) rfl (by kernel_rfl) ?_
 refine EO.cast (S2 := [(0, .int .u64 n), (1, .int .i64 8), (4, .slice none 0 0), (5, .slice (some ⟨A.nid, 0, none⟩) 8 8), (6, .int .i64 7), (14, .bool true), (17, .slice (some ⟨A.nid, 0, none⟩) 8 8), (18, .int .i64 7), (21, .int .u8 (n % 256))]) (by rw [tmod256 (x := n) (by omega)]) ?_
 refine EO.index (v := .slice (some ⟨A.nid, 0, none⟩) 8 8) (u := .int .i64 (Int.ofNat 7)) (w := .pointer (some ⟨A.nid, 0 + 7 * 1, none⟩)) rfl rfl rfl (by kernel_rfl) (by kernel_rfl) (by kernel_rfl) (aindexAddr_slice (elem := 5) (size := 1) (by kernel_rfl) (by kernel_rfl) (by decide)) ?_
 obtain ⟨A2, hst1, hO2', hM1⟩ := hO1.store (P := Try.prog) hn1 (t := 5) (by kernel_rfl) (i := 7) (bl rfl) (z := n % 256) (by omega)
 have hn2 := hM1.nx
 have hO2 : Own A2 A.nid [0, 0, 0, 0, 0, 0, 0, n % 256] := hO2'
 have hx2 := hx1.mod hM1 (by omega)
 refine EO.store (ad := ⟨A.nid, 0 + 7 * 1, none⟩) (u := .int .u8 (n % 256)) (A1 := A2) rfl rfl rfl (by kernel_rfl) (by kernel_rfl) (by kernel_rfl) hst1 ?_
 refine EO.done rfl ?_
 refine J.region ?_
 refine EO.run 2 [0, 1, 4, 5, 6, 14, 17, 18, 21, 22, 24] (S2 := [(0, .int .u64 n), (1, .int .i64 8), (4, .slice none 0 0), (5, .slice (some ⟨A.nid, 0, none⟩) 8 8), (6, .int .i64 7), (14, .bool true), (17, .slice (some ⟨A.nid, 0, none⟩) 8 8), (18, .int .i64 7), (21, .int .u8 (n % 256)), (22, .pointer (some ⟨A.nid, 0 + 7 * 1, none⟩)), (24, .int .u64 (IntKind.wrap .u64 (Int.tdiv n 256)))]) (A2 := A2) rfl (by kernel_rfl) ?_
 refine EO.cast (S2 := [(0, .int .u64 n), (1, .int .i64 8), (4, .slice none 0 0), (5, .slice (some ⟨A.nid, 0, none⟩) 8 8), (6, .int .i64 7), (14, .bool true), (17, .slice (some ⟨A.nid, 0, none⟩) 8 8), (18, .int .i64 7), (21, .int .u8 (n % 256)), (22, .pointer (some ⟨A.nid, 0 + 7 * 1, none⟩)), (24, .int .u64 (n / 256))]) (by rw [tdiv256 (x := n) (by omega) (by omega)]) ?_
 refine EO.run 3 [0, 1, 4, 5, 6, 14, 17, 18, 21, 22] (S2 := [(0, .int .u64 (n / 256)), (1, .int .i64 8), (4, .slice none 0 0), (5, .slice (some ⟨A.nid, 0, none⟩) 8 8), (6, .int .i64 7), (14, .bool true), (17, .slice (some ⟨A.nid, 0, none⟩) 8 8), (18, .int .i64 7), (21, .int .u8 (n % 256)), (22, .pointer (some ⟨A.nid, 0 + 7 * 1, none⟩))]) (A2 := A2) rfl (by kernel_rfl) ?_
 refine EO.done rfl ?_
 refine blockQ_n ?_
 refine thenJ_n ?_
 refine J.region ?_
 refine EO.run 3 [0, 1, 4, 5, 6, 14, 17, 18, 21, 22] (S2 := [(0, .int .u64 (n / 256)), (1, .int .i64 8), (4, .slice none 0 0), (5, .slice (some ⟨A.nid, 0, none⟩) 8 8), (6, .int .i64 6), (14, .bool true), (17, .slice (some ⟨A.nid, 0, none⟩) 8 8), (18, .int .i64 7), (21, .int .u8 (n % 256)), (22, .pointer (some ⟨A.nid, 0 + 7 * 1, none⟩))]) (A2 := A2) rfl (by kernel_rfl) ?_
 refine EO.done rfl ?_
 refine loopQ_n ?_
 refine JL.step ?_
 refine J.seq ?_
 refine J.sr ?_
 refine EO.run 2 [0, 1, 4, 5, 6, 14, 17, 18, 21, 22] (S2 := [(0, .int .u64 (n / 256)), (1, .int .i64 8), (4, .slice none 0 0), (5, .slice (some ⟨A.nid, 0, none⟩) 8 8), (6, .int .i64 6), (14, .bool true), (17, .slice (some ⟨A.nid, 0, none⟩) 8 8), (18, .int .i64 7), (21, .int .u8 (n % 256)), (22, .pointer (some ⟨A.nid, 0 + 7 * 1, none⟩))]) (A2 := A2) rfl (by kernel_rfl) ?_
 refine EO.done rfl ?_
 refine J.cond true (by kernel_rfl) (fun _ => ?_) (fun h => Bool.noConfusion h)
 refine J.skip ?_
 refine thenJ_n ?_
 refine J.seq ?_
 refine J.block ?_
 refine J.sr ?_
 refine EO.run 5 [0, 1, 4, 5, 6, 14, 17, 18, 21, 22] (S2 := [(0, .int .u64 (n / 256)), (1, .int .i64 8), (4, .slice none 0 0), (5, .slice (some ⟨A.nid, 0, none⟩) 8 8), (6, .int .i64 6), (14, .bool true), (17, .slice (some ⟨A.nid, 0, none⟩) 8 8), (18, .int .i64 6), (21, .int .u8 (IntKind.wrap .u8 (Int.tmod (n / 256) 256))), (22, .pointer (some ⟨A.nid, 0 + 7 * 1, none⟩))]) (A2 := A2) rfl (by kernel_rfl) ?_
 refine EO.cast (S2 := [(0, .int .u64 (n / 256)), (1, .int .i64 8), (4, .slice none 0 0), (5, .slice (some ⟨A.nid, 0, none⟩) 8 8), (6, .int .i64 6), (14, .bool true), (17, .slice (some ⟨A.nid, 0, none⟩) 8 8), (18, .int .i64 6), (21, .int .u8 (n / 256 % 256)), (22, .pointer (some ⟨A.nid, 0 + 7 * 1, none⟩))]) (by rw [tmod256 (x := n / 256) (by omega)]) ?_
 refine EO.index (v := .slice (some ⟨A.nid, 0, none⟩) 8 8) (u := .int .i64 (Int.ofNat 6)) (w := .pointer (some ⟨A.nid, 0 + 6 * 1, none⟩)) rfl rfl rfl (by kernel_rfl) (by kernel_rfl) (by kernel_rfl) (aindexAddr_slice (elem := 5) (size := 1) (by kernel_rfl) (by kernel_rfl) (by decide)) ?_
 obtain ⟨A3, hst2, hO3', hM2⟩ := hO2.store (P := Try.prog) hn2 (t := 5) (by kernel_rfl) (i := 6) (bl rfl) (z := n / 256 % 256) (by omega)
 have hn3 := hM2.nx
 have hO3 : Own A3 A.nid [0, 0, 0, 0, 0, 0, n / 256 % 256, n % 256] := hO3'
 have hx3 := hx2.mod hM2 (by omega)
 refine EO.store (ad := ⟨A.nid, 0 + 6 * 1, none⟩) (u := .int .u8 (n / 256 % 256)) (A1 := A3) rfl rfl rfl (by kernel_rfl) (by kernel_rfl) (by kernel_rfl) hst2 ?_
 refine EO.done rfl ?_
 refine J.region ?_
 refine EO.run 2 [0, 1, 4, 5, 6, 14, 17, 18, 21, 22, 24] (S2 := [(0, .int .u64 (n / 256)), (1, .int .i64 8), (4, .slice none 0 0), (5, .slice (some ⟨A.nid, 0, none⟩) 8 8), (6, .int .i64 6), (14, .bool true), (17, .slice (some ⟨A.nid, 0, none⟩) 8 8), (18, .int .i64 6), (21, .int .u8 (n / 256 % 256)), (22, .pointer (some ⟨A.nid, 0 + 6 * 1, none⟩)), (24, .int .u64 (IntKind.wrap .u64 (Int.tdiv (n / 256) 256)))]) (A2 := A3) rfl (by kernel_rfl) ?_
 refine EO.cast (S2 := [(0, .int .u64 (n / 256)), (1, .int .i64 8), (4, .slice none 0 0), (5, .slice (some ⟨A.nid, 0, none⟩) 8 8), (6, .int .i64 6), (14, .bool true), (17, .slice (some ⟨A.nid, 0, none⟩) 8 8), (18, .int .i64 6), (21, .int .u8 (n / 256 % 256)), (22, .pointer (some ⟨A.nid, 0 + 6 * 1, none⟩)), (24, .int .u64 (n / 256 / 256))]) (by rw [tdiv256 (x := n / 256) (by omega) (by omega)]) ?_
 refine EO.run 3 [0, 1, 4, 5, 6, 14, 17, 18, 21, 22] (S2 := [(0, .int .u64 (n / 256 / 256)), (1, .int .i64 8), (4, .slice none 0 0), (5, .slice (some ⟨A.nid, 0, none⟩) 8 8), (6, .int .i64 6), (14, .bool true), (17, .slice (some ⟨A.nid, 0, none⟩) 8 8), (18, .int .i64 6), (21, .int .u8 (n / 256 % 256)), (22, .pointer (some ⟨A.nid, 0 + 6 * 1, none⟩))]) (A2 := A3) rfl (by kernel_rfl) ?_
 refine EO.done rfl ?_
 refine blockQ_n ?_
 refine thenJ_n ?_
 refine J.region ?_
 refine EO.run 3 [0, 1, 4, 5, 6, 14, 17, 18, 21, 22] (S2 := [(0, .int .u64 (n / 256 / 256)), (1, .int .i64 8), (4, .slice none 0 0), (5, .slice (some ⟨A.nid, 0, none⟩) 8 8), (6, .int .i64 5), (14, .bool true), (17, .slice (some ⟨A.nid, 0, none⟩) 8 8), (18, .int .i64 6), (21, .int .u8 (n / 256 % 256)), (22, .pointer (some ⟨A.nid, 0 + 6 * 1, none⟩))]) (A2 := A3) rfl (by kernel_rfl) ?_
 refine EO.done rfl ?_
 refine loopQ_n ?_
 refine JL.step ?_
 refine J.seq ?_
 refine J.sr ?_
 refine EO.run 2 [0, 1, 4, 5, 6, 14, 17, 18, 21, 22] (S2 := [(0, .int .u64 (n / 256 / 256)), (1, .int .i64 8), (4, .slice none 0 0), (5, .slice (some ⟨A.nid, 0, none⟩) 8 8), (6, .int .i64 5), (14, .bool true), (17, .slice (some ⟨A.nid, 0, none⟩) 8 8), (18, .int .i64 6), (21, .int .u8 (n / 256 % 256)), (22, .pointer (some ⟨A.nid, 0 + 6 * 1, none⟩))]) (A2 := A3) rfl (by kernel_rfl) ?_
 refine EO.done rfl ?_
 refine J.cond true (by kernel_rfl) (fun _ => ?_) (fun h => Bool.noConfusion h)
 refine J.skip ?_
 refine thenJ_n ?_
 refine J.seq ?_
 refine J.block ?_
 refine J.sr ?_
 refine EO.run 5 [0, 1, 4, 5, 6, 14, 17, 18, 21, 22] (S2 := [(0, .int .u64 (n / 256 / 256)), (1, .int .i64 8), (4, .slice none 0 0), (5, .slice (some ⟨A.nid, 0, none⟩) 8 8), (6, .int .i64 5), (14, .bool true), (17, .slice (some ⟨A.nid, 0, none⟩) 8 8), (18, .int .i64 5), (21, .int .u8 (IntKind.wrap .u8 (Int.tmod (n / 256 / 256) 256))), (22, .pointer (some ⟨A.nid, 0 + 6 * 1, none⟩))]) (A2 := A3) rfl (by kernel_rfl) ?_
 refine EO.cast (S2 := [(0, .int .u64 (n / 256 / 256)), (1, .int .i64 8), (4, .slice none 0 0), (5, .slice (some ⟨A.nid, 0, none⟩) 8 8), (6, .int .i64 5), (14, .bool true), (17, .slice (some ⟨A.nid, 0, none⟩) 8 8), (18, .int .i64 5), (21, .int .u8 (n / 256 / 256 % 256)), (22, .pointer (some ⟨A.nid, 0 + 6 * 1, none⟩))]) (by rw [tmod256 (x := n / 256 / 256) (by omega)]) ?_
 refine EO.index (v := .slice (some ⟨A.nid, 0, none⟩) 8 8) (u := .int .i64 (Int.ofNat 5)) (w := .pointer (some ⟨A.nid, 0 + 5 * 1, none⟩)) rfl rfl rfl (by kernel_rfl) (by kernel_rfl) (by kernel_rfl) (aindexAddr_slice (elem := 5) (size := 1) (by kernel_rfl) (by kernel_rfl) (by decide)) ?_
 obtain ⟨A4, hst3, hO4', hM3⟩ := hO3.store (P := Try.prog) hn3 (t := 5) (by kernel_rfl) (i := 5) (bl rfl) (z := n / 256 / 256 % 256) (by omega)
 have hn4 := hM3.nx
 have hO4 : Own A4 A.nid [0, 0, 0, 0, 0, n / 256 / 256 % 256, n / 256 % 256, n % 256] := hO4'
 have hx4 := hx3.mod hM3 (by omega)
 refine EO.store (ad := ⟨A.nid, 0 + 5 * 1, none⟩) (u := .int .u8 (n / 256 / 256 % 256)) (A1 := A4) rfl rfl rfl (by kernel_rfl) (by kernel_rfl) (by kernel_rfl) hst3 ?_
 refine EO.done rfl ?_
 refine J.region ?_
 refine EO.run 2 [0, 1, 4, 5, 6, 14, 17, 18, 21, 22, 24] (S2 := [(0, .int .u64 (n / 256 / 256)), (1, .int .i64 8), (4, .slice none 0 0), (5, .slice (some ⟨A.nid, 0, none⟩) 8 8), (6, .int .i64 5), (14, .bool true), (17, .slice (some ⟨A.nid, 0, none⟩) 8 8), (18, .int .i64 5), (21, .int .u8 (n / 256 / 256 % 256)), (22, .pointer (some ⟨A.nid, 0 + 5 * 1, none⟩)), (24, .int .u64 (IntKind.wrap .u64 (Int.tdiv (n / 256 / 256) 256)))]) (A2 := A4) rfl (by kernel_rfl) ?_
 refine EO.cast (S2 := [(0, .int .u64 (n / 256 / 256)), (1, .int .i64 8), (4, .slice none 0 0), (5, .slice (some ⟨A.nid, 0, none⟩) 8 8), (6, .int .i64 5), (14, .bool true), (17, .slice (some ⟨A.nid, 0, none⟩) 8 8), (18, .int .i64 5), (21, .int .u8 (n / 256 / 256 % 256)), (22, .pointer (some ⟨A.nid, 0 + 5 * 1, none⟩)), (24, .int .u64 (n / 256 / 256 / 256))]) (by rw [tdiv256 (x := n / 256 / 256) (by omega) (by omega)]) ?_
 refine EO.run 3 [0, 1, 4, 5, 6, 14, 17, 18, 21, 22] (S2 := [(0, .int .u64 (n / 256 / 256 / 256)), (1, .int .i64 8), (4, .slice none 0 0), (5, .slice (some ⟨A.nid, 0, none⟩) 8 8), (6, .int .i64 5), (14, .bool true), (17, .slice (some ⟨A.nid, 0, none⟩) 8 8), (18, .int .i64 5), (21, .int .u8 (n / 256 / 256 % 256)), (22, .pointer (some ⟨A.nid, 0 + 5 * 1, none⟩))]) (A2 := A4) rfl (by kernel_rfl) ?_
 refine EO.done rfl ?_
 refine blockQ_n ?_
 refine thenJ_n ?_
 refine J.region ?_
 refine EO.run 3 [0, 1, 4, 5, 6, 14, 17, 18, 21, 22] (S2 := [(0, .int .u64 (n / 256 / 256 / 256)), (1, .int .i64 8), (4, .slice none 0 0), (5, .slice (some ⟨A.nid, 0, none⟩) 8 8), (6, .int .i64 4), (14, .bool true), (17, .slice (some ⟨A.nid, 0, none⟩) 8 8), (18, .int .i64 5), (21, .int .u8 (n / 256 / 256 % 256)), (22, .pointer (some ⟨A.nid, 0 + 5 * 1, none⟩))]) (A2 := A4) rfl (by kernel_rfl) ?_
 refine EO.done rfl ?_
 refine loopQ_n ?_
 refine JL.step ?_
 refine J.seq ?_
 refine J.sr ?_
 refine EO.run 2 [0, 1, 4, 5, 6, 14, 17, 18, 21, 22] (S2 := [(0, .int .u64 (n / 256 / 256 / 256)), (1, .int .i64 8), (4, .slice none 0 0), (5, .slice (some ⟨A.nid, 0, none⟩) 8 8), (6, .int .i64 4), (14, .bool true), (17, .slice (some ⟨A.nid, 0, none⟩) 8 8), (18, .int .i64 5), (21, .int .u8 (n / 256 / 256 % 256)), (22, .pointer (some ⟨A.nid, 0 + 5 * 1, none⟩))]) (A2 := A4) rfl (by kernel_rfl) ?_
 refine EO.done rfl ?_
 refine J.cond true (by kernel_rfl) (fun _ => ?_) (fun h => Bool.noConfusion h)
 refine J.skip ?_
 refine thenJ_n ?_
 refine J.seq ?_
 refine J.block ?_
 refine J.sr ?_
 refine EO.run 5 [0, 1, 4, 5, 6, 14, 17, 18, 21, 22] (S2 := [(0, .int .u64 (n / 256 / 256 / 256)), (1, .int .i64 8), (4, .slice none 0 0), (5, .slice (some ⟨A.nid, 0, none⟩) 8 8), (6, .int .i64 4), (14, .bool true), (17, .slice (some ⟨A.nid, 0, none⟩) 8 8), (18, .int .i64 4), (21, .int .u8 (IntKind.wrap .u8 (Int.tmod (n / 256 / 256 / 256) 256))), (22, .pointer (some ⟨A.nid, 0 + 5 * 1, none⟩))]) (A2 := A4) rfl (by kernel_rfl) ?_
 refine EO.cast (S2 := [(0, .int .u64 (n / 256 / 256 / 256)), (1, .int .i64 8), (4, .slice none 0 0), (5, .slice (some ⟨A.nid, 0, none⟩) 8 8), (6, .int .i64 4), (14, .bool true), (17, .slice (some ⟨A.nid, 0, none⟩) 8 8), (18, .int .i64 4), (21, .int .u8 (n / 256 / 256 / 256 % 256)), (22, .pointer (some ⟨A.nid, 0 + 5 * 1, none⟩))]) (by rw [tmod256 (x := n / 256 / 256 / 256) (by omega)]) ?_
 refine EO.index (v := .slice (some ⟨A.nid, 0, none⟩) 8 8) (u := .int .i64 (Int.ofNat 4)) (w := .pointer (some ⟨A.nid, 0 + 4 * 1, none⟩)) rfl rfl rfl (by kernel_rfl) (by kernel_rfl) (by kernel_rfl) (aindexAddr_slice (elem := 5) (size := 1) (by kernel_rfl) (by kernel_rfl) (by decide)) ?_
 obtain ⟨A5, hst4, hO5', hM4⟩ := hO4.store (P := Try.prog) hn4 (t := 5) (by kernel_rfl) (i := 4) (bl rfl) (z := n / 256 / 256 / 256 % 256) (by omega)
 have hn5 := hM4.nx
 have hO5 : Own A5 A.nid [0, 0, 0, 0, n / 256 / 256 / 256 % 256, n / 256 / 256 % 256, n / 256 % 256, n % 256] := hO5'
 have hx5 := hx4.mod hM4 (by omega)
 refine EO.store (ad := ⟨A.nid, 0 + 4 * 1, none⟩) (u := .int .u8 (n / 256 / 256 / 256 % 256)) (A1 := A5) rfl rfl rfl (by kernel_rfl) (by kernel_rfl) (by kernel_rfl) hst4 ?_
 refine EO.done rfl ?_
 refine J.region ?_
 refine EO.run 2 [0, 1, 4, 5, 6, 14, 17, 18, 21, 22, 24] (S2 := [(0, .int .u64 (n / 256 / 256 / 256)), (1, .int .i64 8), (4, .slice none 0 0), (5, .slice (some ⟨A.nid, 0, none⟩) 8 8), (6, .int .i64 4), (14, .bool true), (17, .slice (some ⟨A.nid, 0, none⟩) 8 8), (18, .int .i64 4), (21, .int .u8 (n / 256 / 256 / 256 % 256)), (22, .pointer (some ⟨A.nid, 0 + 4 * 1, none⟩)), (24, .int .u64 (IntKind.wrap .u64 (Int.tdiv (n / 256 / 256 / 256) 256)))]) (A2 := A5) rfl (by kernel_rfl) ?_
 refine EO.cast (S2 := [(0, .int .u64 (n / 256 / 256 / 256)), (1, .int .i64 8), (4, .slice none 0 0), (5, .slice (some ⟨A.nid, 0, none⟩) 8 8), (6, .int .i64 4), (14, .bool true), (17, .slice (some ⟨A.nid, 0, none⟩) 8 8), (18, .int .i64 4), (21, .int .u8 (n / 256 / 256 / 256 % 256)), (22, .pointer (some ⟨A.nid, 0 + 4 * 1, none⟩)), (24, .int .u64 (n / 256 / 256 / 256 / 256))]) (by rw [tdiv256 (x := n / 256 / 256 / 256) (by omega) (by omega)]) ?_
 refine EO.run 3 [0, 1, 4, 5, 6, 14, 17, 18, 21, 22] (S2 := [(0, .int .u64 (n / 256 / 256 / 256 / 256)), (1, .int .i64 8), (4, .slice none 0 0), (5, .slice (some ⟨A.nid, 0, none⟩) 8 8), (6, .int .i64 4), (14, .bool true), (17, .slice (some ⟨A.nid, 0, none⟩) 8 8), (18, .int .i64 4), (21, .int .u8 (n / 256 / 256 / 256 % 256)), (22, .pointer (some ⟨A.nid, 0 + 4 * 1, none⟩))]) (A2 := A5) rfl (by kernel_rfl) ?_
 refine EO.done rfl ?_
 refine blockQ_n ?_
 refine thenJ_n ?_
 refine J.region ?_
 refine EO.run 3 [0, 1, 4, 5, 6, 14, 17, 18, 21, 22] (S2 := [(0, .int .u64 (n / 256 / 256 / 256 / 256)), (1, .int .i64 8), (4, .slice none 0 0), (5, .slice (some ⟨A.nid, 0, none⟩) 8 8), (6, .int .i64 3), (14, .bool true), (17, .slice (some ⟨A.nid, 0, none⟩) 8 8), (18, .int .i64 4), (21, .int .u8 (n / 256 / 256 / 256 % 256)), (22, .pointer (some ⟨A.nid, 0 + 4 * 1, none⟩))]) (A2 := A5) rfl (by kernel_rfl) ?_
 refine EO.done rfl ?_
 refine loopQ_n ?_
 refine JL.step ?_
 refine J.seq ?_
 refine J.sr ?_
 refine EO.run 2 [0, 1, 4, 5, 6, 14, 17, 18, 21, 22] (S2 := [(0, .int .u64 (n / 256 / 256 / 256 / 256)), (1, .int .i64 8), (4, .slice none 0 0), (5, .slice (some ⟨A.nid, 0, none⟩) 8 8), (6, .int .i64 3), (14, .bool true), (17, .slice (some ⟨A.nid, 0, none⟩) 8 8), (18, .int .i64 4), (21, .int .u8 (n / 256 / 256 / 256 % 256)), (22, .pointer (some ⟨A.nid, 0 + 4 * 1, none⟩))]) (A2 := A5) rfl (by kernel_rfl) ?_
 refine EO.done rfl ?_
 refine J.cond true (by kernel_rfl) (fun _ => ?_) (fun h => Bool.noConfusion h)
 refine J.skip ?_
 refine thenJ_n ?_
 refine J.seq ?_
 refine J.block ?_
 refine J.sr ?_
 refine EO.run 5 [0, 1, 4, 5, 6, 14, 17, 18, 21, 22] (S2 := [(0, .int .u64 (n / 256 / 256 / 256 / 256)), (1, .int .i64 8), (4, .slice none 0 0), (5, .slice (some ⟨A.nid, 0, none⟩) 8 8), (6, .int .i64 3), (14, .bool true), (17, .slice (some ⟨A.nid, 0, none⟩) 8 8), (18, .int .i64 3), (21, .int .u8 (IntKind.wrap .u8 (Int.tmod (n / 256 / 256 / 256 / 256) 256))), (22, .pointer (some ⟨A.nid, 0 + 4 * 1, none⟩))]) (A2 := A5) rfl (by kernel_rfl) ?_
 refine EO.cast (S2 := [(0, .int .u64 (n / 256 / 256 / 256 / 256)), (1, .int .i64 8), (4, .slice none 0 0), (5, .slice (some ⟨A.nid, 0, none⟩) 8 8), (6, .int .i64 3), (14, .bool true), (17, .slice (some ⟨A.nid, 0, none⟩) 8 8), (18, .int .i64 3), (21, .int .u8 (n / 256 / 256 / 256 / 256 % 256)), (22, .pointer (some ⟨A.nid, 0 + 4 * 1, none⟩))]) (by rw [tmod256 (x := n / 256 / 256 / 256 / 256) (by omega)]) ?_
 refine EO.index (v := .slice (some ⟨A.nid, 0, none⟩) 8 8) (u := .int .i64 (Int.ofNat 3)) (w := .pointer (some ⟨A.nid, 0 + 3 * 1, none⟩)) rfl rfl rfl (by kernel_rfl) (by kernel_rfl) (by kernel_rfl) (aindexAddr_slice (elem := 5) (size := 1) (by kernel_rfl) (by kernel_rfl) (by decide)) ?_
 obtain ⟨A6, hst5, hO6', hM5⟩ := hO5.store (P := Try.prog) hn5 (t := 5) (by kernel_rfl) (i := 3) (bl rfl) (z := n / 256 / 256 / 256 / 256 % 256) (by omega)
 have hn6 := hM5.nx
 have hO6 : Own A6 A.nid [0, 0, 0, n / 256 / 256 / 256 / 256 % 256, n / 256 / 256 / 256 % 256, n / 256 / 256 % 256, n / 256 % 256, n % 256] := hO6'
 have hx6 := hx5.mod hM5 (by omega)
 refine EO.store (ad := ⟨A.nid, 0 + 3 * 1, none⟩) (u := .int .u8 (n / 256 / 256 / 256 / 256 % 256)) (A1 := A6) rfl rfl rfl (by kernel_rfl) (by kernel_rfl) (by kernel_rfl) hst5 ?_
 refine EO.done rfl ?_
 refine J.region ?_
 refine EO.run 2 [0, 1, 4, 5, 6, 14, 17, 18, 21, 22, 24] (S2 := [(0, .int .u64 (n / 256 / 256 / 256 / 256)), (1, .int .i64 8), (4, .slice none 0 0), (5, .slice (some ⟨A.nid, 0, none⟩) 8 8), (6, .int .i64 3), (14, .bool true), (17, .slice (some ⟨A.nid, 0, none⟩) 8 8), (18, .int .i64 3), (21, .int .u8 (n / 256 / 256 / 256 / 256 % 256)), (22, .pointer (some ⟨A.nid, 0 + 3 * 1, none⟩)), (24, .int .u64 (IntKind.wrap .u64 (Int.tdiv (n / 256 / 256 / 256 / 256) 256)))]) (A2 := A6) rfl (by kernel_rfl) ?_
 refine EO.cast (S2 := [(0, .int .u64 (n / 256 / 256 / 256 / 256)), (1, .int .i64 8), (4, .slice none 0 0), (5, .slice (some ⟨A.nid, 0, none⟩) 8 8), (6, .int .i64 3), (14, .bool true), (17, .slice (some ⟨A.nid, 0, none⟩) 8 8), (18, .int .i64 3), (21, .int .u8 (n / 256 / 256 / 256 / 256 % 256)), (22, .pointer (some ⟨A.nid, 0 + 3 * 1, none⟩)), (24, .int .u64 (n / 256 / 256 / 256 / 256 / 256))]) (by rw [tdiv256 (x := n / 256 / 256 / 256 / 256) (by omega) (by omega)]) ?_
 refine EO.run 3 [0, 1, 4, 5, 6, 14, 17, 18, 21, 22] (S2 := [(0, .int .u64 (n / 256 / 256 / 256 / 256 / 256)), (1, .int .i64 8), (4, .slice none 0 0), (5, .slice (some ⟨A.nid, 0, none⟩) 8 8), (6, .int .i64 3), (14, .bool true), (17, .slice (some ⟨A.nid, 0, none⟩) 8 8), (18, .int .i64 3), (21, .int .u8 (n / 256 / 256 / 256 / 256 % 256)), (22, .pointer (some ⟨A.nid, 0 + 3 * 1, none⟩))]) (A2 := A6) rfl (by kernel_rfl) ?_
 refine EO.done rfl ?_
 refine blockQ_n ?_
 refine thenJ_n ?_
 refine J.region ?_
 refine EO.run 3 [0, 1, 4, 5, 6, 14, 17, 18, 21, 22] (S2 := [(0, .int .u64 (n / 256 / 256 / 256 / 256 / 256)), (1, .int .i64 8), (4, .slice none 0 0), (5, .slice (some ⟨A.nid, 0, none⟩) 8 8), (6, .int .i64 2), (14, .bool true), (17, .slice (some ⟨A.nid, 0, none⟩) 8 8), (18, .int .i64 3), (21, .int .u8 (n / 256 / 256 / 256 / 256 % 256)), (22, .pointer (some ⟨A.nid, 0 + 3 * 1, none⟩))]) (A2 := A6) rfl (by kernel_rfl) ?_
 refine EO.done rfl ?_
 refine loopQ_n ?_
 refine JL.step ?_
 refine J.seq ?_
 refine J.sr ?_
 refine EO.run 2 [0, 1, 4, 5, 6, 14, 17, 18, 21, 22] (S2 := [(0, .int .u64 (n / 256 / 256 / 256 / 256 / 256)), (1, .int .i64 8), (4, .slice none 0 0), (5, .slice (some ⟨A.nid, 0, none⟩) 8 8), (6, .int .i64 2), (14, .bool true), (17, .slice (some ⟨A.nid, 0, none⟩) 8 8), (18, .int .i64 3), (21, .int .u8 (n / 256 / 256 / 256 / 256 % 256)), (22, .pointer (some ⟨A.nid, 0 + 3 * 1, none⟩))]) (A2 := A6) rfl (by kernel_rfl) ?_
 refine EO.done rfl ?_
 refine J.cond true (by kernel_rfl) (fun _ => ?_) (fun h => Bool.noConfusion h)
 refine J.skip ?_
 refine thenJ_n ?_
 refine J.seq ?_
 refine J.block ?_
 refine J.sr ?_
 refine EO.run 5 [0, 1, 4, 5, 6, 14, 17, 18, 21, 22] (S2 := [(0, .int .u64 (n / 256 / 256 / 256 / 256 / 256)), (1, .int .i64 8), (4, .slice none 0 0), (5, .slice (some ⟨A.nid, 0, none⟩) 8 8), (6, .int .i64 2), (14, .bool true), (17, .slice (some ⟨A.nid, 0, none⟩) 8 8), (18, .int .i64 2), (21, .int .u8 (IntKind.wrap .u8 (Int.tmod (n / 256 / 256 / 256 / 256 / 256) 256))), (22, .pointer (some ⟨A.nid, 0 + 3 * 1, none⟩))]) (A2 := A6) rfl (by kernel_rfl) ?_
 refine EO.cast (S2 := [(0, .int .u64 (n / 256 / 256 / 256 / 256 / 256)), (1, .int .i64 8), (4, .slice none 0 0), (5, .slice (some ⟨A.nid, 0, none⟩) 8 8), (6, .int .i64 2), (14, .bool true), (17, .slice (some ⟨A.nid, 0, none⟩) 8 8), (18, .int .i64 2), (21, .int .u8 (n / 256 / 256 / 256 / 256 / 256 % 256)), (22, .pointer (some ⟨A.nid, 0 + 3 * 1, none⟩))]) (by rw [tmod256 (x := n / 256 / 256 / 256 / 256 / 256) (by omega)]) ?_
 refine EO.index (v := .slice (some ⟨A.nid, 0, none⟩) 8 8) (u := .int .i64 (Int.ofNat 2)) (w := .pointer (some ⟨A.nid, 0 + 2 * 1, none⟩)) rfl rfl rfl (by kernel_rfl) (by kernel_rfl) (by kernel_rfl) (aindexAddr_slice (elem := 5) (size := 1) (by kernel_rfl) (by kernel_rfl) (by decide)) ?_
 obtain ⟨A7, hst6, hO7', hM6⟩ := hO6.store (P := Try.prog) hn6 (t := 5) (by kernel_rfl) (i := 2) (bl rfl) (z := n / 256 / 256 / 256 / 256 / 256 % 256) (by omega)
 have hn7 := hM6.nx
 have hO7 : Own A7 A.nid [0, 0, n / 256 / 256 / 256 / 256 / 256 % 256, n / 256 / 256 / 256 / 256 % 256, n / 256 / 256 / 256 % 256, n / 256 / 256 % 256, n / 256 % 256, n % 256] := hO7'
 have hx7 := hx6.mod hM6 (by omega)
 refine EO.store (ad := ⟨A.nid, 0 + 2 * 1, none⟩) (u := .int .u8 (n / 256 / 256 / 256 / 256 / 256 % 256)) (A1 := A7) rfl rfl rfl (by kernel_rfl) (by kernel_rfl) (by kernel_rfl) hst6 ?_
 refine EO.done rfl ?_
 refine J.region ?_
 refine EO.run 2 [0, 1, 4, 5, 6, 14, 17, 18, 21, 22, 24] (S2 := [(0, .int .u64 (n / 256 / 256 / 256 / 256 / 256)), (1, .int .i64 8), (4, .slice none 0 0), (5, .slice (some ⟨A.nid, 0, none⟩) 8 8), (6, .int .i64 2), (14, .bool true), (17, .slice (some ⟨A.nid, 0, none⟩) 8 8), (18, .int .i64 2), (21, .int .u8 (n / 256 / 256 / 256 / 256 / 256 % 256)), (22, .pointer (some ⟨A.nid, 0 + 2 * 1, none⟩)), (24, .int .u64 (IntKind.wrap .u64 (Int.tdiv (n / 256 / 256 / 256 / 256 / 256) 256)))]) (A2 := A7) rfl (by kernel_rfl) ?_
 refine EO.cast (S2 := [(0, .int .u64 (n / 256 / 256 / 256 / 256 / 256)), (1, .int .i64 8), (4, .slice none 0 0), (5, .slice (some ⟨A.nid, 0, none⟩) 8 8), (6, .int .i64 2), (14, .bool true), (17, .slice (some ⟨A.nid, 0, none⟩) 8 8), (18, .int .i64 2), (21, .int .u8 (n / 256 / 256 / 256 / 256 / 256 % 256)), (22, .pointer (some ⟨A.nid, 0 + 2 * 1, none⟩)), (24, .int .u64 (n / 256 / 256 / 256 / 256 / 256 / 256))]) (by rw [tdiv256 (x := n / 256 / 256 / 256 / 256 / 256) (by omega) (by omega)]) ?_
 refine EO.run 3 [0, 1, 4, 5, 6, 14, 17, 18, 21, 22] (S2 := [(0, .int .u64 (n / 256 / 256 / 256 / 256 / 256 / 256)), (1, .int .i64 8), (4, .slice none 0 0), (5, .slice (some ⟨A.nid, 0, none⟩) 8 8), (6, .int .i64 2), (14, .bool true), (17, .slice (some ⟨A.nid, 0, none⟩) 8 8), (18, .int .i64 2), (21, .int .u8 (n / 256 / 256 / 256 / 256 / 256 % 256)), (22, .pointer (some ⟨A.nid, 0 + 2 * 1, none⟩))]) (A2 := A7) rfl (by kernel_rfl) ?_
 refine EO.done rfl ?_
 refine blockQ_n ?_
 refine thenJ_n ?_
 refine J.region ?_
 refine EO.run 3 [0, 1, 4, 5, 6, 14, 17, 18, 21, 22] (S2 := [(0, .int .u64 (n / 256 / 256 / 256 / 256 / 256 / 256)), (1, .int .i64 8), (4, .slice none 0 0), (5, .slice (some ⟨A.nid, 0, none⟩) 8 8), (6, .int .i64 1), (14, .bool true), (17, .slice (some ⟨A.nid, 0, none⟩) 8 8), (18, .int .i64 2), (21, .int .u8 (n / 256 / 256 / 256 / 256 / 256 % 256)), (22, .pointer (some ⟨A.nid, 0 + 2 * 1, none⟩))]) (A2 := A7) rfl (by kernel_rfl) ?_
 refine EO.done rfl ?_
 refine loopQ_n ?_
 refine JL.step ?_
 refine J.seq ?_
 refine J.sr ?_
 refine EO.run 2 [0, 1, 4, 5, 6, 14, 17, 18, 21, 22] (S2 := [(0, .int .u64 (n / 256 / 256 / 256 / 256 / 256 / 256)), (1, .int .i64 8), (4, .slice none 0 0), (5, .slice (some ⟨A.nid, 0, none⟩) 8 8), (6, .int .i64 1), (14, .bool true), (17, .slice (some ⟨A.nid, 0, none⟩) 8 8), (18, .int .i64 2), (21, .int .u8 (n / 256 / 256 / 256 / 256 / 256 % 256)), (22, .pointer (some ⟨A.nid, 0 + 2 * 1, none⟩))]) (A2 := A7) rfl (by kernel_rfl) ?_
 refine EO.done rfl ?_
 refine J.cond true (by kernel_rfl) (fun _ => ?_) (fun h => Bool.noConfusion h)
 refine J.skip ?_
 refine thenJ_n ?_
 refine J.seq ?_
 refine J.block ?_
 refine J.sr ?_
 refine EO.run 5 [0, 1, 4, 5, 6, 14, 17, 18, 21, 22] (S2 := [(0, .int .u64 (n / 256 / 256 / 256 / 256 / 256 / 256)), (1, .int .i64 8), (4, .slice none 0 0), (5, .slice (some ⟨A.nid, 0, none⟩) 8 8), (6, .int .i64 1), (14, .bool true), (17, .slice (some ⟨A.nid, 0, none⟩) 8 8), (18, .int .i64 1), (21, .int .u8 (IntKind.wrap .u8 (Int.tmod (n / 256 / 256 / 256 / 256 / 256 / 256) 256))), (22, .pointer (some ⟨A.nid, 0 + 2 * 1, none⟩))]) (A2 := A7) rfl (by kernel_rfl) ?_
 refine EO.cast (S2 := [(0, .int .u64 (n / 256 / 256 / 256 / 256 / 256 / 256)), (1, .int .i64 8), (4, .slice none 0 0), (5, .slice (some ⟨A.nid, 0, none⟩) 8 8), (6, .int .i64 1), (14, .bool true), (17, .slice (some ⟨A.nid, 0, none⟩) 8 8), (18, .int .i64 1), (21, .int .u8 (n / 256 / 256 / 256 / 256 / 256 / 256 % 256)), (22, .pointer (some ⟨A.nid, 0 + 2 * 1, none⟩))]) (by rw [tmod256 (x := n / 256 / 256 / 256 / 256 / 256 / 256) (by omega)]) ?_
 refine EO.index (v := .slice (some ⟨A.nid, 0, none⟩) 8 8) (u := .int .i64 (Int.ofNat 1)) (w := .pointer (some ⟨A.nid, 0 + 1 * 1, none⟩)) rfl rfl rfl (by kernel_rfl) (by kernel_rfl) (by kernel_rfl) (aindexAddr_slice (elem := 5) (size := 1) (by kernel_rfl) (by kernel_rfl) (by decide)) ?_
 obtain ⟨A8, hst7, hO8', hM7⟩ := hO7.store (P := Try.prog) hn7 (t := 5) (by kernel_rfl) (i := 1) (bl rfl) (z := n / 256 / 256 / 256 / 256 / 256 / 256 % 256) (by omega)
 have hn8 := hM7.nx
 have hO8 : Own A8 A.nid [0, n / 256 / 256 / 256 / 256 / 256 / 256 % 256, n / 256 / 256 / 256 / 256 / 256 % 256, n / 256 / 256 / 256 / 256 % 256, n / 256 / 256 / 256 % 256, n / 256 / 256 % 256, n / 256 % 256, n % 256] := hO8'
 have hx8 := hx7.mod hM7 (by omega)
 refine EO.store (ad := ⟨A.nid, 0 + 1 * 1, none⟩) (u := .int .u8 (n / 256 / 256 / 256 / 256 / 256 / 256 % 256)) (A1 := A8) rfl rfl rfl (by kernel_rfl) (by kernel_rfl) (by kernel_rfl) hst7 ?_
 refine EO.done rfl ?_
 refine J.region ?_
 refine EO.run 2 [0, 1, 4, 5, 6, 14, 17, 18, 21, 22, 24] (S2 := [(0, .int .u64 (n / 256 / 256 / 256 / 256 / 256 / 256)), (1, .int .i64 8), (4, .slice none 0 0), (5, .slice (some ⟨A.nid, 0, none⟩) 8 8), (6, .int .i64 1), (14, .bool true), (17, .slice (some ⟨A.nid, 0, none⟩) 8 8), (18, .int .i64 1), (21, .int .u8 (n / 256 / 256 / 256 / 256 / 256 / 256 % 256)), (22, .pointer (some ⟨A.nid, 0 + 1 * 1, none⟩)), (24, .int .u64 (IntKind.wrap .u64 (Int.tdiv (n / 256 / 256 / 256 / 256 / 256 / 256) 256)))]) (A2 := A8) rfl (by kernel_rfl) ?_
 refine EO.cast (S2 := [(0, .int .u64 (n / 256 / 256 / 256 / 256 / 256 / 256)), (1, .int .i64 8), (4, .slice none 0 0), (5, .slice (some ⟨A.nid, 0, none⟩) 8 8), (6, .int .i64 1), (14, .bool true), (17, .slice (some ⟨A.nid, 0, none⟩) 8 8), (18, .int .i64 1), (21, .int .u8 (n / 256 / 256 / 256 / 256 / 256 / 256 % 256)), (22, .pointer (some ⟨A.nid, 0 + 1 * 1, none⟩)), (24, .int .u64 (n / 256 / 256 / 256 / 256 / 256 / 256 / 256))]) (by rw [tdiv256 (x := n / 256 / 256 / 256 / 256 / 256 / 256) (by omega) (by omega)]) ?_
 refine EO.run 3 [0, 1, 4, 5, 6, 14, 17, 18, 21, 22] (S2 := [(0, .int .u64 (n / 256 / 256 / 256 / 256 / 256 / 256 / 256)), (1, .int .i64 8), (4, .slice none 0 0), (5, .slice (some ⟨A.nid, 0, none⟩) 8 8), (6, .int .i64 1), (14, .bool true), (17, .slice (some ⟨A.nid, 0, none⟩) 8 8), (18, .int .i64 1), (21, .int .u8 (n / 256 / 256 / 256 / 256 / 256 / 256 % 256)), (22, .pointer (some ⟨A.nid, 0 + 1 * 1, none⟩))]) (A2 := A8) rfl (by kernel_rfl) ?_
 refine EO.done rfl ?_
 refine blockQ_n ?_
 refine thenJ_n ?_
 refine J.region ?_
 refine EO.run 3 [0, 1, 4, 5, 6, 14, 17, 18, 21, 22] (S2 := [(0, .int .u64 (n / 256 / 256 / 256 / 256 / 256 / 256 / 256)), (1, .int .i64 8), (4, .slice none 0 0), (5, .slice (some ⟨A.nid, 0, none⟩) 8 8), (6, .int .i64 0), (14, .bool true), (17, .slice (some ⟨A.nid, 0, none⟩) 8 8), (18, .int .i64 1), (21, .int .u8 (n / 256 / 256 / 256 / 256 / 256 / 256 % 256)), (22, .pointer (some ⟨A.nid, 0 + 1 * 1, none⟩))]) (A2 := A8) rfl (by kernel_rfl) ?_
 refine EO.done rfl ?_
 refine loopQ_n ?_
 refine JL.step ?_
 refine J.seq ?_
 refine J.sr ?_
 refine EO.run 2 [0, 1, 4, 5, 6, 14, 17, 18, 21, 22] (S2 := [(0, .int .u64 (n / 256 / 256 / 256 / 256 / 256 / 256 / 256)), (1, .int .i64 8), (4, .slice none 0 0), (5, .slice (some ⟨A.nid, 0, none⟩) 8 8), (6, .int .i64 0), (14, .bool true), (17, .slice (some ⟨A.nid, 0, none⟩) 8 8), (18, .int .i64 1), (21, .int .u8 (n / 256 / 256 / 256 / 256 / 256 / 256 % 256)), (22, .pointer (some ⟨A.nid, 0 + 1 * 1, none⟩))]) (A2 := A8) rfl (by kernel_rfl) ?_
 refine EO.done rfl ?_
 refine J.cond true (by kernel_rfl) (fun _ => ?_) (fun h => Bool.noConfusion h)
 refine J.skip ?_
 refine thenJ_n ?_
 refine J.seq ?_
 refine J.block ?_
 refine J.sr ?_
 refine EO.run 5 [0, 1, 4, 5, 6, 14, 17, 18, 21, 22] (S2 := [(0, .int .u64 (n / 256 / 256 / 256 / 256 / 256 / 256 / 256)), (1, .int .i64 8), (4, .slice none 0 0), (5, .slice (some ⟨A.nid, 0, none⟩) 8 8), (6, .int .i64 0), (14, .bool true), (17, .slice (some ⟨A.nid, 0, none⟩) 8 8), (18, .int .i64 0), (21, .int .u8 (IntKind.wrap .u8 (Int.tmod (n / 256 / 256 / 256 / 256 / 256 / 256 / 256) 256))), (22, .pointer (some ⟨A.nid, 0 + 1 * 1, none⟩))]) (A2 := A8) rfl (by kernel_rfl) ?_
 refine EO.cast (S2 := [(0, .int .u64 (n / 256 / 256 / 256 / 256 / 256 / 256 / 256)), (1, .int .i64 8), (4, .slice none 0 0), (5, .slice (some ⟨A.nid, 0, none⟩) 8 8), (6, .int .i64 0), (14, .bool true), (17, .slice (some ⟨A.nid, 0, none⟩) 8 8), (18, .int .i64 0), (21, .int .u8 (n / 256 / 256 / 256 / 256 / 256 / 256 / 256 % 256)), (22, .pointer (some ⟨A.nid, 0 + 1 * 1, none⟩))]) (by rw [tmod256 (x := n / 256 / 256 / 256 / 256 / 256 / 256 / 256) (by omega)]) ?_
 refine EO.index (v := .slice (some ⟨A.nid, 0, none⟩) 8 8) (u := .int .i64 (Int.ofNat 0)) (w := .pointer (some ⟨A.nid, 0 + 0 * 1, none⟩)) rfl rfl rfl (by kernel_rfl) (by kernel_rfl) (by kernel_rfl) (aindexAddr_slice (elem := 5) (size := 1) (by kernel_rfl) (by kernel_rfl) (by decide)) ?_
 obtain ⟨A9, hst8, hO9', hM8⟩ := hO8.store (P := Try.prog) hn8 (t := 5) (by kernel_rfl) (i := 0) (bl rfl) (z := n / 256 / 256 / 256 / 256 / 256 / 256 / 256 % 256) (by omega)
 have hn9 := hM8.nx
 have hO9 : Own A9 A.nid [n / 256 / 256 / 256 / 256 / 256 / 256 / 256 % 256, n / 256 / 256 / 256 / 256 / 256 / 256 % 256, n / 256 / 256 / 256 / 256 / 256 % 256, n / 256 / 256 / 256 / 256 % 256, n / 256 / 256 / 256 % 256, n / 256 / 256 % 256, n / 256 % 256, n % 256] := hO9'
 have hx9 := hx8.mod hM8 (by omega)
 refine EO.store (ad := ⟨A.nid, 0 + 0 * 1, none⟩) (u := .int .u8 (n / 256 / 256 / 256 / 256 / 256 / 256 / 256 % 256)) (A1 := A9) rfl rfl rfl (by kernel_rfl) (by kernel_rfl) (by kernel_rfl) hst8 ?_
 refine EO.done rfl ?_
 refine J.region ?_
 refine EO.run 2 [0, 1, 4, 5, 6, 14, 17, 18, 21, 22, 24] (S2 := [(0, .int .u64 (n / 256 / 256 / 256 / 256 / 256 / 256 / 256)), (1, .int .i64 8), (4, .slice none 0 0), (5, .slice (some ⟨A.nid, 0, none⟩) 8 8), (6, .int .i64 0), (14, .bool true), (17, .slice (some ⟨A.nid, 0, none⟩) 8 8), (18, .int .i64 0), (21, .int .u8 (n / 256 / 256 / 256 / 256 / 256 / 256 / 256 % 256)), (22, .pointer (some ⟨A.nid, 0 + 0 * 1, none⟩)), (24, .int .u64 (IntKind.wrap .u64 (Int.tdiv (n / 256 / 256 / 256 / 256 / 256 / 256 / 256) 256)))]) (A2 := A9) rfl (by kernel_rfl) ?_
 refine EO.cast (S2 := [(0, .int .u64 (n / 256 / 256 / 256 / 256 / 256 / 256 / 256)), (1, .int .i64 8), (4, .slice none 0 0), (5, .slice (some ⟨A.nid, 0, none⟩) 8 8), (6, .int .i64 0), (14, .bool true), (17, .slice (some ⟨A.nid, 0, none⟩) 8 8), (18, .int .i64 0), (21, .int .u8 (n / 256 / 256 / 256 / 256 / 256 / 256 / 256 % 256)), (22, .pointer (some ⟨A.nid, 0 + 0 * 1, none⟩)), (24, .int .u64 (n / 256 / 256 / 256 / 256 / 256 / 256 / 256 / 256))]) (by rw [tdiv256 (x := n / 256 / 256 / 256 / 256 / 256 / 256 / 256) (by omega) (by omega)]) ?_
 refine EO.run 3 [0, 1, 4, 5, 6, 14, 17, 18, 21, 22] (S2 := [(0, .int .u64 (n / 256 / 256 / 256 / 256 / 256 / 256 / 256 / 256)), (1, .int .i64 8), (4, .slice none 0 0), (5, .slice (some ⟨A.nid, 0, none⟩) 8 8), (6, .int .i64 0), (14, .bool true), (17, .slice (some ⟨A.nid, 0, none⟩) 8 8), (18, .int .i64 0), (21, .int .u8 (n / 256 / 256 / 256 / 256 / 256 / 256 / 256 % 256)), (22, .pointer (some ⟨A.nid, 0 + 0 * 1, none⟩))]) (A2 := A9) rfl (by kernel_rfl) ?_
 refine EO.done rfl ?_
 refine blockQ_n ?_
 refine thenJ_n ?_
 refine J.region ?_
 refine EO.run 3 [0, 1, 4, 5, 6, 14, 17, 18, 21, 22] (S2 := [(0, .int .u64 (n / 256 / 256 / 256 / 256 / 256 / 256 / 256 / 256)), (1, .int .i64 8), (4, .slice none 0 0), (5, .slice (some ⟨A.nid, 0, none⟩) 8 8), (6, .int .i64 (-1)), (14, .bool true), (17, .slice (some ⟨A.nid, 0, none⟩) 8 8), (18, .int .i64 0), (21, .int .u8 (n / 256 / 256 / 256 / 256 / 256 / 256 / 256 % 256)), (22, .pointer (some ⟨A.nid, 0 + 0 * 1, none⟩))]) (A2 := A9) rfl (by kernel_rfl) ?_
 refine EO.done rfl ?_
 refine loopQ_n ?_
 refine JL.step ?_
 refine J.seq ?_
 refine J.sr ?_
 refine EO.run 2 [0, 1, 4, 5, 6, 14, 17, 18, 21, 22] (S2 := [(0, .int .u64 (n / 256 / 256 / 256 / 256 / 256 / 256 / 256 / 256)), (1, .int .i64 8), (4, .slice none 0 0), (5, .slice (some ⟨A.nid, 0, none⟩) 8 8), (6, .int .i64 (-1)), (14, .bool false), (17, .slice (some ⟨A.nid, 0, none⟩) 8 8), (18, .int .i64 0), (21, .int .u8 (n / 256 / 256 / 256 / 256 / 256 / 256 / 256 % 256)), (22, .pointer (some ⟨A.nid, 0 + 0 * 1, none⟩))]) (A2 := A9) rfl (by kernel_rfl) ?_
 refine EO.done rfl ?_
 refine J.cond false (by kernel_rfl) (fun h => Bool.noConfusion h) (fun _ => ?_)
 refine J.exit ?_
 refine thenJ_e ?_
 refine loopQ_e ?_
 refine blockQ_hit ?_
 refine thenJ_n ?_
 refine J.sr ?_
 refine EO.run 1 [0, 1, 4, 5, 6, 7, 14, 17, 18, 21, 22] (S2 := [(0, .int .u64 (n / 256 / 256 / 256 / 256 / 256 / 256 / 256 / 256)), (1, .int .i64 8), (4, .slice none 0 0), (5, .slice (some ⟨A.nid, 0, none⟩) 8 8), (6, .int .i64 (-1)), (7, .int .i64 0), (14, .bool false), (17, .slice (some ⟨A.nid, 0, none⟩) 8 8), (18, .int .i64 0), (21, .int .u8 (n / 256 / 256 / 256 / 256 / 256 / 256 / 256 % 256)), (22, .pointer (some ⟨A.nid, 0 + 0 * 1, none⟩))]) (A2 := A9) rfl (by kernel_rfl) ?_
 refine EO.done rfl ?_
 refine J.seq ?_
 refine J.sr ?_
 refine EO.run 1 [0, 1, 4, 5, 6, 7, 8, 14, 17, 18, 21, 22] (S2 := [(0, .int .u64 (n / 256 / 256 / 256 / 256 / 256 / 256 / 256 / 256)), (1, .int .i64 8), (4, .slice none 0 0), (5, .slice (some ⟨A.nid, 0, none⟩) 8 8), (6, .int .i64 (-1)), (7, .int .i64 0), (8, .int .i64 1), (14, .bool false), (17, .slice (some ⟨A.nid, 0, none⟩) 8 8), (18, .int .i64 0), (21, .int .u8 (n / 256 / 256 / 256 / 256 / 256 / 256 / 256 % 256)), (22, .pointer (some ⟨A.nid, 0 + 0 * 1, none⟩))]) (A2 := A9) rfl (by kernel_rfl) ?_
 refine EO.done rfl ?_
 refine J.block ?_
 refine J.unroll ?_
 refine JL.step ?_
 refine J.seq ?_
 refine J.sr ?_
 refine EO.run 3 [0, 1, 4, 5, 6, 7, 8, 14, 17, 18, 21, 22, 27] (S2 := [(0, .int .u64 (n / 256 / 256 / 256 / 256 / 256 / 256 / 256 / 256)), (1, .int .i64 8), (4, .slice none 0 0), (5, .slice (some ⟨A.nid, 0, none⟩) 8 8), (6, .int .i64 (-1)), (7, .int .i64 0), (8, .int .i64 1), (14, .bool false), (17, .slice (some ⟨A.nid, 0, none⟩) 8 8), (18, .int .i64 0), (21, .int .u8 (n / 256 / 256 / 256 / 256 / 256 / 256 / 256 % 256)), (22, .pointer (some ⟨A.nid, 0 + 0 * 1, none⟩)), (27, .bool true)]) (A2 := A9) rfl (by kernel_rfl) ?_
 refine EO.done rfl ?_
 refine J.cond true (by kernel_rfl) (fun _ => ?_) (fun h => Bool.noConfusion h)
 refine J.skip ?_
 refine thenJ_n ?_
 refine J.seq ?_
 refine J.block ?_
 refine J.region ?_
 refine EO.run 3 [0, 1, 4, 5, 6, 7, 8, 14, 17, 18, 21, 22, 27] (S2 := [(0, .int .u64 (n / 256 / 256 / 256 / 256 / 256 / 256 / 256 / 256)), (1, .int .i64 8), (4, .slice none 0 0), (5, .slice (some ⟨A.nid, 0, none⟩) 8 8), (6, .int .i64 (-1)), (7, .int .i64 1), (8, .int .i64 1), (14, .bool false), (17, .slice (some ⟨A.nid, 0, none⟩) 8 8), (18, .int .i64 0), (21, .int .u8 (n / 256 / 256 / 256 / 256 / 256 / 256 / 256 % 256)), (22, .pointer (some ⟨A.nid, 0 + 0 * 1, none⟩)), (27, .bool true)]) (A2 := A9) rfl (by kernel_rfl) ?_
 refine EO.done rfl ?_
 refine blockQ_n ?_
 refine thenJ_n ?_
 refine J.region ?_
 refine EO.run 3 [0, 1, 4, 5, 6, 7, 8, 14, 17, 18, 21, 22, 27] (S2 := [(0, .int .u64 (n / 256 / 256 / 256 / 256 / 256 / 256 / 256 / 256)), (1, .int .i64 8), (4, .slice none 0 0), (5, .slice (some ⟨A.nid, 0, none⟩) 8 8), (6, .int .i64 (-1)), (7, .int .i64 1), (8, .int .i64 2), (14, .bool false), (17, .slice (some ⟨A.nid, 0, none⟩) 8 8), (18, .int .i64 0), (21, .int .u8 (n / 256 / 256 / 256 / 256 / 256 / 256 / 256 % 256)), (22, .pointer (some ⟨A.nid, 0 + 0 * 1, none⟩)), (27, .bool true)]) (A2 := A9) rfl (by kernel_rfl) ?_
 refine EO.done rfl ?_
 refine loopQ_n ?_
 refine JL.step ?_
 refine J.seq ?_
 refine J.sr ?_
 refine EO.run 3 [0, 1, 4, 5, 6, 7, 8, 14, 17, 18, 21, 22, 27] (S2 := [(0, .int .u64 (n / 256 / 256 / 256 / 256 / 256 / 256 / 256 / 256)), (1, .int .i64 8), (4, .slice none 0 0), (5, .slice (some ⟨A.nid, 0, none⟩) 8 8), (6, .int .i64 (-1)), (7, .int .i64 1), (8, .int .i64 2), (14, .bool false), (17, .slice (some ⟨A.nid, 0, none⟩) 8 8), (18, .int .i64 0), (21, .int .u8 (n / 256 / 256 / 256 / 256 / 256 / 256 / 256 % 256)), (22, .pointer (some ⟨A.nid, 0 + 0 * 1, none⟩)), (27, .bool true)]) (A2 := A9) rfl (by kernel_rfl) ?_
 refine EO.done rfl ?_
 refine J.cond true (by kernel_rfl) (fun _ => ?_) (fun h => Bool.noConfusion h)
 refine J.skip ?_
 refine thenJ_n ?_
 refine J.seq ?_
 refine J.block ?_
 refine J.region ?_
 refine EO.run 3 [0, 1, 4, 5, 6, 7, 8, 14, 17, 18, 21, 22, 27] (S2 := [(0, .int .u64 (n / 256 / 256 / 256 / 256 / 256 / 256 / 256 / 256)), (1, .int .i64 8), (4, .slice none 0 0), (5, .slice (some ⟨A.nid, 0, none⟩) 8 8), (6, .int .i64 (-1)), (7, .int .i64 2), (8, .int .i64 2), (14, .bool false), (17, .slice (some ⟨A.nid, 0, none⟩) 8 8), (18, .int .i64 0), (21, .int .u8 (n / 256 / 256 / 256 / 256 / 256 / 256 / 256 % 256)), (22, .pointer (some ⟨A.nid, 0 + 0 * 1, none⟩)), (27, .bool true)]) (A2 := A9) rfl (by kernel_rfl) ?_
 refine EO.done rfl ?_
 refine blockQ_n ?_
 refine thenJ_n ?_
 refine J.region ?_
 refine EO.run 3 [0, 1, 4, 5, 6, 7, 8, 14, 17, 18, 21, 22, 27] (S2 := [(0, .int .u64 (n / 256 / 256 / 256 / 256 / 256 / 256 / 256 / 256)), (1, .int .i64 8), (4, .slice none 0 0), (5, .slice (some ⟨A.nid, 0, none⟩) 8 8), (6, .int .i64 (-1)), (7, .int .i64 2), (8, .int .i64 4), (14, .bool false), (17, .slice (some ⟨A.nid, 0, none⟩) 8 8), (18, .int .i64 0), (21, .int .u8 (n / 256 / 256 / 256 / 256 / 256 / 256 / 256 % 256)), (22, .pointer (some ⟨A.nid, 0 + 0 * 1, none⟩)), (27, .bool true)]) (A2 := A9) rfl (by kernel_rfl) ?_
 refine EO.done rfl ?_
 refine loopQ_n ?_
 refine JL.step ?_
 refine J.seq ?_
 refine J.sr ?_
 refine EO.run 3 [0, 1, 4, 5, 6, 7, 8, 14, 17, 18, 21, 22, 27] (S2 := [(0, .int .u64 (n / 256 / 256 / 256 / 256 / 256 / 256 / 256 / 256)), (1, .int .i64 8), (4, .slice none 0 0), (5, .slice (some ⟨A.nid, 0, none⟩) 8 8), (6, .int .i64 (-1)), (7, .int .i64 2), (8, .int .i64 4), (14, .bool false), (17, .slice (some ⟨A.nid, 0, none⟩) 8 8), (18, .int .i64 0), (21, .int .u8 (n / 256 / 256 / 256 / 256 / 256 / 256 / 256 % 256)), (22, .pointer (some ⟨A.nid, 0 + 0 * 1, none⟩)), (27, .bool true)]) (A2 := A9) rfl (by kernel_rfl) ?_
 refine EO.done rfl ?_
 refine J.cond true (by kernel_rfl) (fun _ => ?_) (fun h => Bool.noConfusion h)
 refine J.skip ?_
 refine thenJ_n ?_
 refine J.seq ?_
 refine J.block ?_
 refine J.region ?_
 refine EO.run 3 [0, 1, 4, 5, 6, 7, 8, 14, 17, 18, 21, 22, 27] (S2 := [(0, .int .u64 (n / 256 / 256 / 256 / 256 / 256 / 256 / 256 / 256)), (1, .int .i64 8), (4, .slice none 0 0), (5, .slice (some ⟨A.nid, 0, none⟩) 8 8), (6, .int .i64 (-1)), (7, .int .i64 3), (8, .int .i64 4), (14, .bool false), (17, .slice (some ⟨A.nid, 0, none⟩) 8 8), (18, .int .i64 0), (21, .int .u8 (n / 256 / 256 / 256 / 256 / 256 / 256 / 256 % 256)), (22, .pointer (some ⟨A.nid, 0 + 0 * 1, none⟩)), (27, .bool true)]) (A2 := A9) rfl (by kernel_rfl) ?_
 refine EO.done rfl ?_
 refine blockQ_n ?_
 refine thenJ_n ?_
 refine J.region ?_
 refine EO.run 3 [0, 1, 4, 5, 6, 7, 8, 14, 17, 18, 21, 22, 27] (S2 := [(0, .int .u64 (n / 256 / 256 / 256 / 256 / 256 / 256 / 256 / 256)), (1, .int .i64 8), (4, .slice none 0 0), (5, .slice (some ⟨A.nid, 0, none⟩) 8 8), (6, .int .i64 (-1)), (7, .int .i64 3), (8, .int .i64 8), (14, .bool false), (17, .slice (some ⟨A.nid, 0, none⟩) 8 8), (18, .int .i64 0), (21, .int .u8 (n / 256 / 256 / 256 / 256 / 256 / 256 / 256 % 256)), (22, .pointer (some ⟨A.nid, 0 + 0 * 1, none⟩)), (27, .bool true)]) (A2 := A9) rfl (by kernel_rfl) ?_
 refine EO.done rfl ?_
 refine loopQ_n ?_
 refine JL.step ?_
 refine J.seq ?_
 refine J.sr ?_
 refine EO.run 3 [0, 1, 4, 5, 6, 7, 8, 14, 17, 18, 21, 22, 27] (S2 := [(0, .int .u64 (n / 256 / 256 / 256 / 256 / 256 / 256 / 256 / 256)), (1, .int .i64 8), (4, .slice none 0 0), (5, .slice (some ⟨A.nid, 0, none⟩) 8 8), (6, .int .i64 (-1)), (7, .int .i64 3), (8, .int .i64 8), (14, .bool false), (17, .slice (some ⟨A.nid, 0, none⟩) 8 8), (18, .int .i64 0), (21, .int .u8 (n / 256 / 256 / 256 / 256 / 256 / 256 / 256 % 256)), (22, .pointer (some ⟨A.nid, 0 + 0 * 1, none⟩)), (27, .bool false)]) (A2 := A9) rfl (by kernel_rfl) ?_
 refine EO.done rfl ?_
 refine J.cond false (by kernel_rfl) (fun h => Bool.noConfusion h) (fun _ => ?_)
 refine J.exit ?_
 refine thenJ_e ?_
 refine loopQ_e ?_
 refine blockQ_hit ?_
 refine thenJ_n ?_
 refine J.sr ?_
 refine EO.run 2 [0, 1, 4, 5, 6, 7, 8, 14, 17, 18, 21, 22, 27, 32, 33] (S2 := [(0, .int .u64 (n / 256 / 256 / 256 / 256 / 256 / 256 / 256 / 256)), (1, .int .i64 8), (4, .slice none 0 0), (5, .slice (some ⟨A.nid, 0, none⟩) 8 8), (6, .int .i64 (-1)), (7, .int .i64 3), (8, .int .i64 8), (14, .bool false), (17, .slice (some ⟨A.nid, 0, none⟩) 8 8), (18, .int .i64 0), (21, .int .u8 (n / 256 / 256 / 256 / 256 / 256 / 256 / 256 % 256)), (22, .pointer (some ⟨A.nid, 0 + 0 * 1, none⟩)), (27, .bool false), (32, .slice (some ⟨A.nid, 0, none⟩) 8 8), (33, .slice (some ⟨A.nid, 0, none⟩) 8 8)]) (A2 := A9) rfl (by kernel_rfl) ?_
 refine EO.index (v := .slice (some ⟨A.nid, 0, none⟩) 8 8) (u := .int .i64 (Int.ofNat 0)) (w := .pointer (some ⟨A.nid, 0 + 0 * 1, none⟩)) rfl rfl rfl (by kernel_rfl) (by kernel_rfl) (by kernel_rfl) (aindexAddr_slice (elem := 5) (size := 1) (by kernel_rfl) (by kernel_rfl) (by decide)) ?_
 refine EO.load (ad := ⟨A.nid, 0 + 0 * 1, none⟩) (w := .int .u8 (n / 256 / 256 / 256 / 256 / 256 / 256 / 256 % 256)) rfl rfl rfl (by kernel_rfl) (by kernel_rfl) (hO9.row.load (by kernel_rfl) rfl) ?_
 refine EO.run 8 [0, 1, 4, 5, 6, 7, 8, 14, 17, 18, 21, 22, 27, 32, 39] (S2 := [(0, .int .u64 (n / 256 / 256 / 256 / 256 / 256 / 256 / 256 / 256)), (1, .int .i64 8), (4, .slice none 0 0), (5, .slice (some ⟨A.nid, 0, none⟩) 8 8), (6, .int .i64 (-1)), (7, .int .i64 3), (8, .int .i64 8), (14, .bool false), (17, .slice (some ⟨A.nid, 0, none⟩) 8 8), (18, .int .i64 0), (21, .int .u8 (n / 256 / 256 / 256 / 256 / 256 / 256 / 256 % 256)), (22, .pointer (some ⟨A.nid, 0 + 0 * 1, none⟩)), (27, .bool false), (32, .slice (some ⟨A.nid, 0, none⟩) 8 8), (39, .int .u8 (IntKind.wrap .u8 ((n / 256 / 256 / 256 / 256 / 256 / 256 / 256 % 256) + 192)))]) (A2 := A9) rfl (by kernel_rfl) ?_
 refine EO.cast (S2 := [(0, .int .u64 (n / 256 / 256 / 256 / 256 / 256 / 256 / 256 / 256)), (1, .int .i64 8), (4, .slice none 0 0), (5, .slice (some ⟨A.nid, 0, none⟩) 8 8), (6, .int .i64 (-1)), (7, .int .i64 3), (8, .int .i64 8), (14, .bool false), (17, .slice (some ⟨A.nid, 0, none⟩) 8 8), (18, .int .i64 0), (21, .int .u8 (n / 256 / 256 / 256 / 256 / 256 / 256 / 256 % 256)), (22, .pointer (some ⟨A.nid, 0 + 0 * 1, none⟩)), (27, .bool false), (32, .slice (some ⟨A.nid, 0, none⟩) 8 8), (39, .int .u8 (n / 256 / 256 / 256 / 256 / 256 / 256 / 256 % 256 + 192))]) (by rw [wrap_u8 (by omega) (by omega)]) ?_
 refine EO.index (v := .slice (some ⟨A.nid, 0, none⟩) 8 8) (u := .int .i64 (Int.ofNat 0)) (w := .pointer (some ⟨A.nid, 0 + 0 * 1, none⟩)) rfl rfl rfl (by kernel_rfl) (by kernel_rfl) (by kernel_rfl) (aindexAddr_slice (elem := 5) (size := 1) (by kernel_rfl) (by kernel_rfl) (by decide)) ?_
 obtain ⟨A10, hst9, hO10', hM9⟩ := hO9.store (P := Try.prog) hn9 (t := 5) (by kernel_rfl) (i := 0) (bl rfl) (z := n / 256 / 256 / 256 / 256 / 256 / 256 / 256 % 256 + 192) (by omega)
 have hn10 := hM9.nx
 have hO10 : Own A10 A.nid [n / 256 / 256 / 256 / 256 / 256 / 256 / 256 % 256 + 192, n / 256 / 256 / 256 / 256 / 256 / 256 % 256, n / 256 / 256 / 256 / 256 / 256 % 256, n / 256 / 256 / 256 / 256 % 256, n / 256 / 256 / 256 % 256, n / 256 / 256 % 256, n / 256 % 256, n % 256] := hO10'
 have hx10 := hx9.mod hM9 (by omega)
 refine EO.store (ad := ⟨A.nid, 0 + 0 * 1, none⟩) (u := .int .u8 (n / 256 / 256 / 256 / 256 / 256 / 256 / 256 % 256 + 192)) (A1 := A10) rfl rfl rfl (by kernel_rfl) (by kernel_rfl) (by kernel_rfl) hst9 ?_
 refine EO.done rfl ?_
 refine J.sr ?_
 refine EO.run 2 [0, 1, 4, 5, 6, 7, 8, 14, 17, 18, 21, 22, 27, 32, 39, 40] (S2 := [(0, .int .u64 (n / 256 / 256 / 256 / 256 / 256 / 256 / 256 / 256)), (1, .int .i64 8), (4, .slice (some ⟨A.nid, 0, none⟩) 8 8), (5, .slice (some ⟨A.nid, 0, none⟩) 8 8), (6, .int .i64 (-1)), (7, .int .i64 3), (8, .int .i64 8), (14, .bool false), (17, .slice (some ⟨A.nid, 0, none⟩) 8 8), (18, .int .i64 0), (21, .int .u8 (n / 256 / 256 / 256 / 256 / 256 / 256 / 256 % 256)), (22, .pointer (some ⟨A.nid, 0 + 0 * 1, none⟩)), (27, .bool false), (32, .slice (some ⟨A.nid, 0, none⟩) 8 8), (39, .int .u8 (n / 256 / 256 / 256 / 256 / 256 / 256 / 256 % 256 + 192)), (40, .pointer (some ⟨A.nid, 0 + 0 * 1, none⟩))]) (A2 := A10) rfl (by kernel_rfl) ?_
 refine EO.done rfl ?_
 refine J.ret ?_
 refine Ends_r (vs := [.slice (some ⟨A.nid, 0, none⟩) 8 8]) (by kernel_rfl) ?_
 exact ⟨rfl, hO10, hx10, hn10⟩
end
end Go.Proofs.Ytioggedadamoaaa
