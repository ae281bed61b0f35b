/-
  What the library's table of powers tells; functions that only make new memory.
-/
import Derived.Test.YtlibnpdbcjgegaaGreatSLBase
import Derived.Test.YtlibnpdbcjgegaaGreatSLFrz
import Derived.Test.YtlibnpdbcjgegaaGreatProg
import Derived.Lib.QuietBelow
import Derived.Lib.AppendIntMem
import Derived.Laws.AppendOwn
namespace Go.SL
set_option linter.unusedVariables false
open Go.RowKit
theorem Sat.below {o : Outer} {w w' : World} {r : List HProp} (h : Sat o w r) (hb : Below w.heap.size w w') : Sat o w' r := by
  obtain ⟨h1, h2, h3, _, h5⟩ := hb
  exact h.same (by rw [← h.1]; simp [outer, h1, h2, h3]) h5
theorem Trip.of_quiet {P : Program} {f : FuncId} {args : List Value} {A : HProp} {v : Value} (h : ∀ w, holds A w → Calls P f args.toArray w fun e w' => e = .returned v ∧ Below w.heap.size w w') :
    Trip P f args [A] (fun u Ps => u = v ∧ Ps = [A]) := by
  constructor; intro o w Rs hw
  refine (h w (hw.holds (.head _))).mono ?_
  rintro e w' ⟨rfl, hb⟩
  exact ⟨v, [A], rfl, ⟨rfl, rfl⟩, hw.below hb⟩
/-- A slice of texts that the library has made. -/
theorem Sat.own_strs {o : Outer} {w w' : World} {r : List HProp} {T g n c : Nat} {ss : List (List UInt8)} (h : Sat o w r) (hb : Below w.heap.size w w')
    (ho : w'.ownsRow w.heap.size T 1 (.slice (some ⟨g, 0, none⟩) n c) n (ss.map fun s => str s)) : Sat o w' (sl Enc.str T (some ⟨g, 0, none⟩) c ss :: r) := by
  obtain ⟨h1, h2⟩ := ho
  rcases h2 with ⟨h2, _⟩ | ⟨g', cap, cur, hv, hg, hc, hn, hm, hcs, ht⟩
  · cases h2
  simp only [Value.slice.injEq, Option.some.injEq, Addr.mk.injEq, and_true, true_and] at hv
  obtain ⟨rfl, rfl⟩ := hv
  have hlen : ss.length = n := by simpa using h1
  have hall : Enc.str.all ss = ss.map fun s => str s := by
    simp only [Enc.all]; clear h1 ht hlen; induction ss with
    | nil => rfl
    | cons s ss ih => simp only [List.flatMap_cons, List.map_cons, ih]; rfl
  obtain ⟨b1, b2, b3, _, b5⟩ := hb
  refine h.more (by rw [← h.1]; simp [outer, b1, b2, b3]) ⟨one g (false, .cells cur T (0, 0)), .inr ⟨g, [], cur.toList.drop n, rfl, ?_, hm, (0, 0), .inl rfl, ?_⟩, fun b x hx => ?_, fun b x hx => ?_⟩ b5
  · rw [Enc.all_length, List.length_drop, hlen]; simp; omega
  · congr 2
    rw [hall, ← ht, Nat.mul_one, List.nil_append, List.take_append_drop, Array.toArray_toList]
  · obtain ⟨rfl, rfl⟩ := one_some hx; exact hc
  · obtain ⟨rfl, _⟩ := one_some hx; exact hg
end Go.SL
namespace Go.Proofs.YtlibnpdbcjgegaaGreat
open Go.SL Go.RowKit
set_option linter.unusedVariables false
/-- The library's table of powers, never written. -/
def gl : HProp := fun f => Fro f ∧ ∀ w, Holds w f → Lib.TabIs Tryz.prog w "internal/strconv.uint64pow10" .u64 Lib.pow10Tab
theorem gl_fro : ∀ f, gl f → Fro f := fun f h => h.1
end Go.Proofs.YtlibnpdbcjgegaaGreat
