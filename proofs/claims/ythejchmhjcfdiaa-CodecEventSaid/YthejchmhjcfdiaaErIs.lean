/-
  Which error an error wraps.
-/
import Derived.Test.YthejchmhjcfdiaaSLApp
namespace Go.Proofs.Ythejchmhjcfdiaa
open Go.SL
set_option linter.unusedVariables false
set_option linter.unusedSimpArgs false
theorem Is_spec (v : Value) (e e' : Int) : Trip Try.prog 17 [v, .int .i64 e'] [err v e] (fun u Ps => u = .bool (e == e') ∧ Ps = [err v e]) := by
  refine Trip.of (m := 17) Try.func17 rfl rfl rfl ?_
  intro o Rs
  simp only [List.cons_append, List.nil_append, enumFrom]
  by_cases he : e = 0
  · subst he
    by_cases h0 : e' = 0
    · subst h0
      refine go ?_
      simp
    · have hb : ((0 : Int) == e') = false := by simpa using fun h : 0 = e' => h0 h.symm
      rw [hb]
      refine go ?_
      simp
  · have F1 := errorsIs_spec v e e' he
    by_cases h0 : e' = 0
    · subst h0
      refine go ?_
      simp
    · refine go ?_
      simp
end Go.Proofs.Ythejchmhjcfdiaa
