import Derived.Test.YtgckodpnpidodaaGreatRows
import Derived.Stop.Joined
import Derived.ProofKit
set_option linter.all false
set_option maxRecDepth 100000
namespace Go.Proofs.YtgckodpnpidodaaGreat
open Go.ChangeShapes Go.WideShapes Go.ChangeAt Go.RowKit
def inp : Input := ⟨#[], #[.agg #[.int .i64 0, .int .i64 0, .int .i64 0, .int .i64 0, .int .i64 0, .int .i64 0, .int .i64 0, .slice none 0 0]], []⟩
theorem f1 (os : Os) : (World.plainHolding Tryz.prog os inp).variablesB Tryz.prog = true := by kernel_rfl
theorem f3 (os : Os) : Input.okWideB Tryz.prog (World.plainHolding Tryz.prog os inp) 4 ⟨#[], inp.args, []⟩ = true := by kernel_rfl
theorem f4 (os : Os) (H : Type) (enc : TypeId × Value → H) : Rows.partNilSpec.preB enc Tryz.prog Tryz.f4 Rows.partNilRow.domain false (World.plainHolding Tryz.prog os inp).memory inp.args 8 = true := by kernel_rfl
theorem f5 (os : Os) (H : Type) (enc : TypeId × Value → H) : Rows.partNilSpec.sizedB enc Tryz.prog Tryz.f4 false (World.plainHolding Tryz.prog os inp).memory inp.args 8 = true := by kernel_rfl
theorem f2 (os : Os) : ((World.plainHolding Tryz.prog os inp).heap.toList.drop Tryz.prog.globals.size).take ((begin Tryz.prog (fun _ _ => 0) default).world.heap.size - Tryz.prog.globals.size) =
      (begin Tryz.prog (fun _ _ => 0) default).world.heap.toList.drop Tryz.prog.globals.size := by kernel_rfl

theorem own : ownKnob Tryz.prog.godebug = none := by kernel_rfl
theorem noInit : Tryz.checked.prog.inits.idxOf? 4 = none := by kernel_rfl
theorem lifted0 (os : Os) (started : os.Started) (H : Type) (enc : TypeId × Value → H)
    (hc : ∀ (W : World) (base : Nat) (args : Array Value) (ds gs : List (DataW H)) (before : List MemPlace), (∀ (j : Nat) t v, Tryz.f4.params[j]? = some t → args[j]? = some v → Value.okWide Tryz.prog W .any base t v) →
      DataW.Whole enc Tryz.prog Tryz.f4.params.toList Rows.partNilSpec.vars false W args.toList ds gs before →
      Calls Tryz.prog 4 args W fun e W' => ∃ v, e = .returned v ∧ Rows.partNilSpec.post enc Tryz.prog Tryz.f4 false true false false W args v W') :
    ReturnsInHanded {} Tryz.checked os 4 .any (Rows.partNilSpec.pre6 enc Tryz.prog Tryz.f4 Rows.partNilRow.domain false) (Rows.partNilSpec.post enc Tryz.prog Tryz.f4 false true false false) :=
  returnsInHanded_of_change (C := Tryz.checked) own started noInit Tryz.func4
    (ChangeSpec.witness6 (enc := enc) (C := Tryz.checked) false inp 8 (f1 os) (f2 os) (f3 os) (f4 os H enc) (f5 os H enc))
    (fun W base args ds gs before hval hW _ _ => hc W base args ds gs before hval hW)
end Go.Proofs.YtgckodpnpidodaaGreat
