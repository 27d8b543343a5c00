/- Short names for what printed walks say often. -/
import Derived.Test.YtioggedadamoaaaAbsK
set_option autoImplicit false
namespace Go.Abs
theorem bl {a b : Nat} (h : Nat.ble a b = true) : a ≤ b := Nat.le_of_ble_eq_true h
abbrev pT (b : Nat) : Value := .pointer (some ⟨b, 0, none⟩)
abbrev nI (n : Nat) : Value := .int .i64 ((n : Nat) : Int)
abbrev bLt (i n : Nat) : Value := .bool (decide (((i : Nat) : Int) < ((n : Nat) : Int)))
end Go.Abs
