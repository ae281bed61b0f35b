/-
  The program's tables: numbers within bounds.
-/
import Derived.Test.YtckkipangiapbaaGreatEnPure
namespace Go.Proofs.YtckkipangiapbaaGreat
open Go.SL
set_option linter.unusedVariables false
set_option linter.unusedSimpArgs false
set_option maxHeartbeats 8000000
set_option maxRecDepth 20000
theorem in_yes (n a b : Int) (h1 : a ≤ n) (h2 : n ≤ b) : Trip Tryz.prog 186 [.int .i64 n, .int .i64 a, .int .i64 b] [] (fun v Ps => v = .bool true ∧ Ps = []) := by
  refine Trip.of (m := 15) Tryz.func186 rfl rfl rfl ?_
  intro o Rs
  simp only [List.cons_append, List.nil_append, enumFrom]
  refine go ?_
  refine ⟨?_, by simp⟩ <;> intros
  rw [decide_eq_true h2]
theorem id_yes (n : Int) (h : 1 ≤ n ∧ n ≤ 1000) : Trip Tryz.prog 185 [.int .i64 n] [] (fun v Ps => v = .bool true ∧ Ps = []) := by
  refine Trip.of (m := 5) Tryz.func185 rfl rfl rfl ?_
  intro o Rs
  simp only [List.cons_append, List.nil_append, enumFrom]
  have F1 := in_yes n 1 1000 h.1 h.2
  refine go ?_
  simp
end Go.Proofs.YtckkipangiapbaaGreat
