/-
  strconv.Itoa, by the shelf's contract; the table that it reads.
-/
import Derived.Test.YthejchmhjcfdiaaDoorSLErr
import Derived.Test.YthejchmhjcfdiaaDoorShelf
import Derived.Lib.QuietBelow
import Derived.Lib.AppendIntMem
import Derived.Lib.ItoaLen
namespace Go.SL
set_option linter.unusedVariables false
open Go.RowKit
theorem Sat.below {o : Outer} {w w' : World} {r : List HProp} (h : Sat o w r) (hb : Below w.heap.size w w') : Sat o w' r := by
  obtain ⟨h1, h2, h3, _, h5⟩ := hb
  exact h.same (by rw [← h.1]; simp [outer, h1, h2, h3]) h5
theorem Trip.of_quiet {P : Program} {f : FuncId} {args : List Value} {A : HProp} {v : Value} (h : ∀ w, holds A w → Calls P f args.toArray w fun e w' => e = .returned v ∧ Below w.heap.size w w') :
    Trip P f args [A] (fun u Ps => u = v ∧ Ps = [A]) := by
  constructor; intro o w Rs hw
  refine (h w (hw.holds (.head _))).mono ?_
  rintro e w' ⟨rfl, hb⟩
  exact ⟨v, [A], rfl, ⟨rfl, rfl⟩, hw.below hb⟩
end Go.SL
namespace Go.Proofs.YthejchmhjcfdiaaDoor
open Go.SL Go.RowKit
set_option linter.unusedVariables false
/-- The library's table of powers, never written. -/
def gl : HProp := fun f => Fro f ∧ ∀ w, Holds w f → Lib.TabIs Tryd.prog w "internal/strconv.uint64pow10" .u64 Lib.pow10Tab
theorem gl_fro : ∀ f, gl f → Fro f := fun f h => h.1
instance : Callable Tryd.prog 32 := .of (by kernel_rfl)
theorem Itoa_text (n : Int) (h0 : -9223372036854775808 ≤ n) (h1 : n ≤ 9223372036854775807) : Trip Tryd.prog 32 [.int .i64 n] [gl] (fun u Ps => u = str (Lib.itoa n) ∧ Ps = [gl]) := by
  refine Trip.of_quiet fun w hw => ?_
  obtain ⟨f, hf, hh⟩ := hw
  refine (Tryd.strconv_Itoa n h0 h1 w (hf.2 w hh)).mono ?_
  rintro e w' ⟨rfl, k, os, rfl⟩
  exact ⟨rfl, Go.Lib.below_grow _ w (Nat.le_refl _) k os⟩
theorem Itoa_spec (n : Int) (h0 : -9223372036854775808 ≤ n) (h1 : n ≤ 9223372036854775807) : Trip Tryd.prog 32 [.int .i64 n] [gl] (fun u Ps => ∃ s : List UInt8, s.length ≤ 21 ∧ u = str s ∧ Ps = [gl]) := by
  constructor; intro o w Rs hw
  refine ((Itoa_text n h0 h1).run o w Rs hw).mono ?_
  rintro e w' ⟨v, Ps, rfl, ⟨rfl, rfl⟩, hs⟩
  exact ⟨_, _, rfl, ⟨_, Go.Lib.itoa_length_le n h0 h1, rfl, rfl⟩, hs⟩
end Go.Proofs.YthejchmhjcfdiaaDoor
