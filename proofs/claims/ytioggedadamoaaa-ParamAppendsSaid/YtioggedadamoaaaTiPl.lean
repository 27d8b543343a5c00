/- param: the chapter's rows hold. -/
import Derived.Test.YtioggedadamoaaaTiPk
set_option autoImplicit false
namespace Go.Proofs.Ytioggedadamoaaa
open Go.Abs Go.RowKit
set_option maxRecDepth 100000 in
theorem ran18 : isTrue (acall Try.prog pre0 (adraw2 Try.prog) 100 50 18 [] AW.empty) = true := by kernel_rfl
theorem f18_fh : FH Try.prog 18 [] [] fun v s1 => v = .bool true ∧ s1 = [] :=
  FH.closed (fun K w0 => acall_sound (pre0_sound Try.prog K w0) (fun call hc => adraw2_sound mixed0 hc) (namesOk_spec names0) 100 50) ran18 (fnOk 18 _ Try.func18 (by kernel_rfl) rfl)
end Go.Proofs.Ytioggedadamoaaa
