/- param: what parameters are. -/
import Derived.Test.YtioggedadamoaaaAbsVf
import Derived.Test.YtioggedadamoaaaAbsVh
import Derived.Test.YtioggedadamoaaaTiVi
set_option autoImplicit false
set_option linter.unusedVariables false
set_option linter.unusedSimpArgs false
namespace Go.Proofs.Ytioggedadamoaaa
open Go.Abs Go.RowKit
set_option maxRecDepth 100000 in
theorem names0 : namesOk Try.prog.funcs.toList = true := by kernel_rfl
theorem mixed0 : Try.prog.follows .mixedOrders = true := by kernel_rfl
theorem hcS (K : Nat → Prop) (w0 : World) : CallSound Try.prog K w0 (call0 Try.prog) := call0_sound mixed0 names0 K w0
structure PN where
  (i1 i4 i5 i6 i7 i8 i9 i11 i14 : Int)
  ht : Bool
  (t0 t1 t2 t3 t4 t5 t6 t7 t8 t9 t10 t11 t12 t13 t14 t15 : Int)
def PN.tok (p : PN) : List Int := [p.t0, p.t1, p.t2, p.t3, p.t4, p.t5, p.t6, p.t7, p.t8, p.t9, p.t10, p.t11, p.t12, p.t13, p.t14, p.t15]
def PN.num (p : PN) : Nat → Int
  | 1 => p.i1 | 4 => p.i4 | 5 => p.i5 | 6 => p.i6 | 7 => p.i7 | 8 => p.i8 | 9 => p.i9 | 11 => p.i11 | 14 => p.i14 | _ => 0
def pcl (vo vc : Value) (p : PN) : List Value := [vo, vc, .int .u64 p.i1, .int .u64 p.i4, .int .u64 p.i5, .int .u64 p.i6, .int .u64 p.i7, .int .u64 p.i8, .int .u64 p.i9, .int .u64 p.i11, .int .u64 p.i14, .bool p.ht,
  .int .u8 p.t0, .int .u8 p.t1, .int .u8 p.t2, .int .u8 p.t3, .int .u8 p.t4, .int .u8 p.t5, .int .u8 p.t6, .int .u8 p.t7, .int .u8 p.t8, .int .u8 p.t9, .int .u8 p.t10, .int .u8 p.t11, .int .u8 p.t12, .int .u8 p.t13, .int .u8 p.t14, .int .u8 p.t15]
def pO (fo fc : Nat → Option Addr) (zo zc : List Int) (co cc : Nat) (p : PN) (i j : Nat) : AObj := .cells (pcl (.slice (fo i) zo.length co) (.slice (fc j) zc.length cc) p) false false 1
theorem _root_.Go.Abs.RowF.rst {r : AObj} {f : Nat → Option Addr} {zs : List Int} {c : Nat} (h : RowF r f zs c) {τ : Nat → Nat} {b : Nat} (e : τ b = b) : ren τ (.slice (f b) zs.length c) = .slice (f b) zs.length c := by rw [h.ren, e]
def tblO (p : PN) : AObj := .cells [.int .u64 0, .int .u64 p.i1, .int .u64 0, .int .u64 0, .int .u64 p.i4, .int .u64 p.i5, .int .u64 p.i6, .int .u64 p.i7, .int .u64 p.i8, .int .u64 p.i9, .int .u64 0, .int .u64 p.i11, .int .u64 0, .int .u64 0, .int .u64 p.i14, .int .u64 0] false false 1
def mayN (id n : Int) : Bool :=
  if id = 8 ∨ id = 9 then decide (n ≤ 1152921504606846976) else if id = 11 then decide (n ≤ 16383) else if id = 14 then decide (n ≥ 2) && decide (n ≤ 4611686018427387903) else decide (n ≤ 4611686018427387903)
def okN (p : PN) : Nat → Bool
  | 0 => true
  | j + 1 => okN p j && (p.num j == 0 || mayN j (p.num j))
def zeroTok (p : PN) : Bool := p.tok == List.replicate 16 0
def mayP (zo zc : List Int) (p : PN) : Bool := okN p 16 && decide (zo.length ≤ 20) && decide (zc.length ≤ 20) && (p.ht || zeroTok p)
theorem dle20 (n : Nat) : decide (((n : Nat) : Int) ≤ 20) = decide (n ≤ 20) := by simp only [decide_eq_decide]; omega
theorem okN_false (p : PN) : ∀ {j k : Nat}, okN p j = false → j ≤ k → okN p k = false := by
  intro j k h hk
  induction k with
  | zero => obtain rfl : j = 0 := by omega
            exact h
  | succ k ih =>
    rcases Nat.lt_or_ge k j with q | q
    · obtain rfl : j = k + 1 := by omega
      exact h
    · simp only [okN, ih q, Bool.false_and]
end Go.Proofs.Ytioggedadamoaaa
