/- Closed facts. -/
import Derived.Test.YtgckodpnpidodaaGreatPn4
set_option linter.all false
set_option linter.unusedVariables false
namespace Go.Ez
open Go.Proofs
theorem mixed : Tryz.prog.follows .mixedOrders = true := by kernel_rfl
theorem laid : laidOutB Tryz.prog = true := by kernel_rfl
theorem knows_run : (callE Tryz.prog 60 F_parcloselaw20_knows [] ⟨0, .leaf⟩).map (·.1) = some (.bool true) := by kernel_rfl
theorem X0_ok : X0.Ok Tryz.prog := extOf_ok mixed fun p hp => by
  simp only [List.mem_singleton] at hp
  subst hp
  exact ⟨rfl, 60, knows_run⟩

end Go.Ez
