/-
  Events cut to what a statement speaks of.
-/
import Derived.Test.YthejchmhjcfdiaaCdEqEv
namespace Go.Proofs.Ythejchmhjcfdiaa
open Go.SL
set_option linter.unusedVariables false
set_option linter.unusedSimpArgs false
set_option maxHeartbeats 8000000
theorem Cut6_spec (s : Tx) (n : Nat) (hn : n ≤ 1000000) : Trip Try.prog 19 [str s, .int .i64 (n : Int)] [] (fun v Ps => v = str (s.take n) ∧ Ps = []) := by
  refine Trip.of (m := 13) Try.func19 rfl rfl rfl ?_
  intro o Rs
  simp only [List.cons_append, List.nil_append, enumFrom]
  by_cases h : n < s.length
  · refine go ?_
    simp
  · rw [List.take_of_length_le (by omega)]
    refine go ?_
    simp
theorem CutEvent_spec (k : Int) (nm tx : Tx) (D : Option Addr) (dc : List Int) (m : Nat) (hd : dc.length ≤ m) :
    Trip Try.prog 12 [evV k nm tx D dc.length m] [] (fun v Ps => v = evV k (nm.take 40) (tx.take 130) D (dc.take 20).length m ∧ Ps = []) := by
  refine Trip.of (m := 20) Try.func12 rfl rfl rfl ?_
  intro o Rs
  simp only [List.cons_append, List.nil_append, enumFrom]
  haveI : Plan 1 [4, 7] [0, 1, 3, 4, 2, 6, 5, 7, 8, 9] := ⟨⟩
  have F1 := Cut6_spec nm 40 (by decide)
  have F2 := Cut6_spec tx 130 (by decide)
  by_cases h : 20 < dc.length
  · have hl : (dc.take 20).length = 20 := by rw [List.length_take]; omega
    rw [hl]
    refine go ?_
    refine ⟨?_, by simp⟩ <;> intros
    refine W.slh (b := 20) (by exact rfl) (by exact rfl) (by decide) (by omega) rfl ?_
    refine go ?_
    refine ⟨?_, by simp⟩ <;> intros
    rfl
  · rw [List.take_of_length_le (by omega : dc.length ≤ 20)]
    refine go ?_
    simp
end Go.Proofs.Ythejchmhjcfdiaa
