import Derived.Test.YtbhemhmdmeomdaaIdxI
set_option linter.unusedSimpArgs false
set_option linter.unusedVariables false
namespace Go.Proofs.Ytbhemhmdmeomdaa
open Go.Mt

/-- Texts of three bytes. -/
def ct (m : UInt8) (i : Nat) : List UInt8 := [UInt8.ofNat (IntKind.u8.wrap (i : Int)).toNat, m, UInt8.ofNat (IntKind.u8.wrap ((i : Int) * 7)).toNat]
def cts : List Int := ((List.range 256).map fun i => fg (ct 1 i)) ++ ((List.range 256).map fun i => fg (ct 2 i))
theorem cts_nodup : cts.Nodup := by decide +kernel
end Go.Proofs.Ytbhemhmdmeomdaa
