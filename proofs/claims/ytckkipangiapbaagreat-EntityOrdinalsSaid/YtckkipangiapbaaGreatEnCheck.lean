/-
  The program's tables: they may be.
-/
import Derived.Test.YtckkipangiapbaaGreatEnNamed
import Derived.Test.YtckkipangiapbaaGreatEnPlans
namespace Go.Proofs.YtckkipangiapbaaGreat
open Go.SL
set_option linter.unusedVariables false
set_option linter.unusedSimpArgs false
set_option maxHeartbeats 8000000
set_option maxRecDepth 20000
theorem Check_yes (d : Nat) (m : Tay) (t : Tab) (g : Good t) (lt : TLaid m t) (P : HProp) [hp : RT P d m t] : Trip Tryz.prog 38 [.pointer (some ⟨d, 0, none⟩)] [P] (fun v Ps => v = .nilIface ∧ Ps = [P]) := by
  refine Trip.of (m := 15) Tryz.func38 rfl rfl rfl ?_
  intro o Rs
  simp only [List.cons_append, List.nil_append, enumFrom]
  have F1 := right_yes d m t g lt P
  have F2 := named_yes d m t g lt P
  refine go ?_
  simp
end Go.Proofs.YtckkipangiapbaaGreat
