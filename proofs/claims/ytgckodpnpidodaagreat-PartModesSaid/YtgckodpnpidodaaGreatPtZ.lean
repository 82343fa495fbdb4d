import Derived.Test.YtgckodpnpidodaaGreatPtV
import Derived.Test.YtgckodpnpidodaaGreatPtW
set_option linter.all false
/- PartModes is proved: for every partition and every list of acts. Its conditions: none. -/
set_option linter.all false
set_option maxRecDepth 100000
namespace Go.Proofs.YtgckodpnpidodaaGreat
theorem partModes_holds : Rows.PartModesSaid :=
  OpenClaim.holds_of_wide 3 Tryz.f3 rfl rfl rfl rfl rfl rfl rfl ⟨rfl, rfl, rfl, rfl, rfl⟩ rfl rfl rfl rfl rfl (by kernel_rfl) Tryz.func3 (by kernel_rfl)
    (of_decide_eq_true (by kernel_rfl)) (by unfold Func.isWrapper; first | (rw [if_pos (by decide +kernel)]; kernel_rfl) | (rw [if_neg (by decide +kernel)]; exact ⟨rfl, rfl⟩))
    (fun os started H enc _ => lifted0 os started H enc fun W base args ds gs before hval hW hwt => Go.Ez.contract H enc W args ds gs before base hval hW hwt)
#print axioms partModes_holds
end Go.Proofs.YtgckodpnpidodaaGreat
