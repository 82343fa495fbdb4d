import Derived.Test.YtgckodpnpidodaaGreatRows
import Derived.Stop.Joined
import Derived.ProofKit
import Derived.SizedLaws
set_option linter.all false
set_option linter.all false
set_option maxRecDepth 100000
namespace Go.Proofs.YtgckodpnpidodaaGreat
open Go.ChangeShapes Go.WideShapes Go.ChangeAt Go.RowKit
def inp2 : Input := ⟨#[], #[.agg #[.slice none 0 0, .slice none 0 0, .slice none 0 0, .int .u8 0, .int .u8 0, .int .u8 0], .slice none 0 0], []⟩
theorem f1 (os : Os) : (World.plainHolding Tryz.prog os inp2).variablesB Tryz.prog = true := by kernel_rfl
theorem f3 (os : Os) : Input.okWideB Tryz.prog (World.plainHolding Tryz.prog os inp2) 3 ⟨#[], inp2.args, []⟩ = true := by kernel_rfl
theorem f4 (os : Os) (H : Type) (enc : TypeId × Value → H) : Rows.partModesSpec.preB enc Tryz.prog Tryz.f3 Rows.partModesRow.domain false (World.plainHolding Tryz.prog os inp2).memory inp2.args 8 = true := by kernel_rfl
theorem f5 (os : Os) (H : Type) (enc : TypeId × Value → H) : Rows.partModesSpec.sizedB enc Tryz.prog Tryz.f3 false (World.plainHolding Tryz.prog os inp2).memory inp2.args 8 = true := by kernel_rfl
theorem f2 (os : Os) : ((World.plainHolding Tryz.prog os inp2).heap.toList.drop Tryz.prog.globals.size).take ((begin Tryz.prog (fun _ _ => 0) default).world.heap.size - Tryz.prog.globals.size) =
      (begin Tryz.prog (fun _ _ => 0) default).world.heap.toList.drop Tryz.prog.globals.size := by kernel_rfl

theorem own : ownKnob Tryz.prog.godebug = none := by kernel_rfl
theorem noInit : Tryz.checked.prog.inits.idxOf? 3 = none := by kernel_rfl
theorem lifted0 (os : Os) (started : os.Started) (H : Type) (enc : TypeId × Value → H)
    (hc : ∀ (W : World) (base : Nat) (args : Array Value) (ds gs : List (DataW H)) (before : List MemPlace), (∀ (j : Nat) t v, Tryz.f3.params[j]? = some t → args[j]? = some v → Value.okWide Tryz.prog W .any base t v) →
      DataW.Whole enc Tryz.prog Tryz.f3.params.toList Rows.partModesSpec.vars false W args.toList ds gs before →
      (DataW.weightsEach Tryz.prog (Tryz.f3.params.toList ++ Rows.partModesSpec.plain.varTypes Tryz.prog) (ds ++ gs)).all (· ≤ reachBytes) = true →
      Calls Tryz.prog 3 args W fun e W' => ∃ v, e = .returned v ∧ Rows.partModesSpec.post enc Tryz.prog Tryz.f3 false true false false W args v W') :
    ReturnsInHanded {} Tryz.checked os 3 .any (Rows.partModesSpec.pre6 enc Tryz.prog Tryz.f3 Rows.partModesRow.domain false) (Rows.partModesSpec.post enc Tryz.prog Tryz.f3 false true false false) :=
  returnsInHanded_of_change_sized (C := Tryz.checked) own started noInit Tryz.func3
    (ChangeSpec.witness6 (enc := enc) (C := Tryz.checked) false inp2 8 (f1 os) (f2 os) (f3 os) (f4 os H enc) (f5 os H enc))
    (fun W base args ds gs before hval hW _ hwt _ => hc W base args ds gs before hval hW hwt)
end Go.Proofs.YtgckodpnpidodaaGreat
