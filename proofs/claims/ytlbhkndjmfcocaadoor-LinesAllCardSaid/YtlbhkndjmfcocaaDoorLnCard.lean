/-
  From a row's laid variables to the table that Itoa reads; from a contract over that table to what the rows ask.
-/
import Derived.Test.YtlbhkndjmfcocaaDoorLnLaw
import Derived.Test.YtlbhkndjmfcocaaDoorRows
import Derived.Lib.LaidTab
import Derived.LaidMore
import Derived.Lay
namespace Go.Proofs.YtlbhkndjmfcocaaDoor
open Go.SL Go.RowKit
set_option linter.unusedVariables false
abbrev laid3 : List (String × DataW Unit) := [("math/bits.deBruijn32tab", Rows.laid_math_bits_deBruijn32tab), ("math/bits.deBruijn64tab", Rows.laid_math_bits_deBruijn64tab), ("internal/strconv.uint64pow10", Rows.laid_internal_strconv_uint64pow10), ("unicode/utf8.acceptRanges", Rows.laid_unicode_utf8_acceptRanges), ("unicode/utf8.first", Rows.laid_unicode_utf8_first)]
theorem tab_of_laid {W : World} (h : laidMetH Tryd.prog laid3 W) : Lib.TabIs Tryd.prog W "internal/strconv.uint64pow10" .u64 Lib.pow10Tab := by
  rw [MakeChecks.laidMetH_plain _ _ _ (by kernel_rfl)] at h
  obtain ⟨ps, h1, h2⟩ := h
  obtain ⟨_, _, _, _, _, _, _, _, _, _, k1, _⟩ := h1
  obtain ⟨_, _, _, _, _, _, _, _, _, _, k2, _⟩ := k1
  obtain ⟨g, t, cs, fuel, p, q, hg, ht, hv, hd, _, _⟩ := k2
  obtain rfl := Option.some.inj ((show Tryd.prog.globalNamed "internal/strconv.uint64pow10" = some 0 by kernel_rfl).symm.trans hg)
  obtain rfl := Option.some.inj ((show (Tryd.prog.globals[0]?).map (·.type) = some 59 by kernel_rfl).symm.trans ht)
  unfold Lib.TabIs
  rw [hv]
  have hd' : DataW.trod _ Tryd.prog W _ _ _ fuel 59 cs.toList = some (Lib.tabData .u64 Lib.pow10Tab, p) := hd
  rw [← Lib.cells_of_tab Tryd.underlying59 Tryd.underlying48 (by kernel_rfl) (by kernel_rfl) hd']
theorem gl_base {W : World} (h : Lib.TabIs Tryd.prog W "internal/strconv.uint64pow10" .u64 Lib.pow10Tab) : ∀ f, base W f → gl f := by
  rintro f rfl
  refine ⟨fun b x hb => ?_, fun w hw => ?_⟩
  · cases hh : W.heap[b]? with
    | none => simp [hh] at hb
    | some o => simp [hh] at hb; subst hb; rfl
  · unfold Lib.TabIs World.var? at h ⊢
    cases hg : Tryd.prog.globalNamed "internal/strconv.uint64pow10" with
    | none => rw [hg] at h; cases h
    | some g =>
      rw [hg] at h
      simp only [Option.bind_some] at h ⊢
      cases hh : W.heap[g]? with
      | none => rw [hh] at h; cases h
      | some o => rw [hw g (true, o) (by simp [hh])]; rw [hh] at h; exact h
theorem Trip.calls_gl2 {P : Program} {f : FuncId} {args : List Value} {W : World} {q : Value → List HProp → Prop} {A : HProp} (h : Trip P f args [A, base W] q) (hA : ∀ f, base W f → A f) (hq : ∀ v Ps, q v Ps → v = .bool true ∧ base W ∈ Ps) :
    Calls P f args.toArray W fun e w' => e = .returned (.bool true) ∧ Below W.heap.size W w' := by
  refine (Trip.calls (q := q) ?_ hq)
  constructor; intro o w Rs hw
  have h2 : Sat o w ([A, base W] ++ Rs) := (hw.dup (fun f hf b x hb => by
    obtain rfl := hf
    cases hh : W.heap[b]? with
    | none => simp [hh] at hb
    | some o => simp [hh] at hb; subst hb; rfl)).weaken hA
  exact h.run o w _ h2
theorem Trip.calls_gl {P : Program} {f : FuncId} {args : List Value} {W : World} {q : Value → List HProp → Prop} {A : HProp} (h : Trip P f args [A] q) (hA : ∀ f, base W f → A f) (hq : ∀ v Ps, q v Ps → v = .bool true) :
    Calls P f args.toArray W fun e w' => e = .returned (.bool true) ∧ Below W.heap.size W w' := by
  refine (Trip.calls (q := fun v Ps => v = .bool true ∧ base W ∈ Ps) ?_ (fun v Ps h => h))
  constructor; intro o w Rs hw
  have h2 : Sat o w ([A] ++ (base W :: Rs)) := (hw.dup (fun f hf b x hb => by
    obtain rfl := hf
    cases hh : W.heap[b]? with
    | none => simp [hh] at hb
    | some o => simp [hh] at hb; subst hb; rfl)).weaken hA
  refine (h.run o w _ h2).mono ?_
  rintro e w' ⟨v, Ps, rfl, hv, hs⟩
  exact ⟨v, Ps ++ [base W], rfl, ⟨hq v Ps hv, by simp⟩, by simpa using hs⟩
end Go.Proofs.YtlbhkndjmfcocaaDoor
