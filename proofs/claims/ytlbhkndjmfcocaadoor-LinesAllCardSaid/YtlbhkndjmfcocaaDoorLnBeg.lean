/-
  The lines begun.
-/
import Derived.Test.YtlbhkndjmfcocaaDoorLnEnd
namespace Go.Proofs.YtlbhkndjmfcocaaDoor
open Go.SL Go.RowKit
set_option linter.unusedVariables false
set_option linter.unusedSimpArgs false
set_option maxHeartbeats 1000000
theorem begun_spec : Trip Tryd.prog 5 [] [gl] (fun u Ps => u = .bool true ∧ Ps = [gl]) := by
  refine Trip.of (m := 45) Tryd.func5 rfl rfl rfl ?_
  intro o Rs
  simp only [List.cons_append, List.nil_append, enumFrom]
  have F1 := Words_spec [32, 97, 32, 32, 98, 99, 9] (by decide)
  rw [show wordsM [32, 97, 32, 32, 98, 99, 9] = [[97], [98, 99]] from by decide] at F1
  have F2 := Number_spec [49, 48, 57, 57, 53, 49, 49, 54, 50, 55, 55, 55, 54]
  rw [show numM [49, 48, 57, 57, 53, 49, 49, 54, 50, 55, 55, 55, 54] = (1099511627776, true) from by decide] at F2
  have F3 := Print_spec (-7) (by decide) (by decide)
  rw [show Lib.itoa (-7) = [45, 55] from by decide +kernel] at F3
  have F4 := Lower_spec [65, 98, 90] (by decide)
  rw [show lowerM [65, 98, 90] = [97, 98, 122] from by decide] at F4
  have F5 := Word_spec [97, 98, 99] (by decide)
  rw [show wordB [97, 98, 99] = true from by decide] at F5
  have F6 := Word_spec [97, 66] (by decide)
  rw [show wordB [97, 66] = false from by decide] at F6
  have H7 := Lines_spec [97, 13, 10, 10, 98] (by decide)
  rw [show linesM [97, 13, 10, 10, 98] = [[97], [], [98]] from by decide] at H7
  have g1 : ([[97], [98, 99]] : List (List UInt8))[1]? = some [98, 99] := rfl
  refine go ?_
  refine ⟨?_, by simp⟩ <;> intros
  refine W.callr (by exact rfl) (by (focus ((repeat (first | exact Ent.done | with_reducible exact Ent.same | (apply Ent.take; (first | (focus (with_reducible iterate 40 first | done | exact .here | apply Find.there); done) | (focus (iterate 40 first | done | exact .here | apply Find.there); done))) | (apply Ent.emp (sl_emp _ _)) | apply Ent.drop)); first | done | fail))) rfl (by (focus ((repeat (first | exact Incl.nil | (apply Incl.cons; (focus (with_reducible iterate 40 first | done | exact .here | apply Find.there); done)))); first | done | fail))) (H7) ?_
  rintro _ _ ⟨A', c', rfl, rfl⟩
  simp only [List.cons_append, List.nil_append]
  refine go ?_
  refine ⟨?_, by simp⟩ <;> intros
  rfl
end Go.Proofs.YtlbhkndjmfcocaaDoor
