/- PartNil is proved: for every act, no partition and one that nobody made refuse all and tell nothing, and the sure answers come. Its conditions: none. -/
import Derived.Test.YtgckodpnpidodaaGreatPn5
import Derived.Test.YtgckodpnpidodaaGreatWt
set_option linter.all false
set_option maxRecDepth 100000
namespace Go.Proofs.YtgckodpnpidodaaGreat
theorem partNil_holds : Rows.PartNilSaid :=
  OpenClaim.holds_of_wide 4 Tryz.f4 rfl rfl rfl rfl rfl rfl rfl ⟨rfl, rfl, rfl, rfl, rfl⟩ rfl rfl rfl rfl rfl (by kernel_rfl) Tryz.func4 (by kernel_rfl)
    (of_decide_eq_true (by kernel_rfl)) (by unfold Func.isWrapper; first | (rw [if_pos (by decide +kernel)]; kernel_rfl) | (rw [if_neg (by decide +kernel)]; exact ⟨rfl, rfl⟩))
    (fun os started H enc _ => lifted0 os started H enc fun W base args ds gs before hval hW => Go.Ez.contract H enc W args ds gs before base hval hW)
#print axioms partNil_holds
end Go.Proofs.YtgckodpnpidodaaGreat
