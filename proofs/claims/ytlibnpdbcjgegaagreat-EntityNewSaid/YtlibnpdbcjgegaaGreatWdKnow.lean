/-
  What a world's piece, a tables' piece tells of how it is laid.
-/
import Derived.Test.YtlibnpdbcjgegaaGreatWdTab
namespace Go.Proofs.YtlibnpdbcjgegaaGreat
open Go.SL
set_option linter.unusedVariables false
section
variable {P : Program} {n : Nat} {o : Outer} {sr : List Tmp} {ops : Array Oper} {Q : Post} {St : List HProp} {rest : List Oper} {xs : Env} {hs : List HProp}
theorem wtb {d : Nat} {m : Tay} {t : Tab} {r : List HProp} (k : TLaid m t → W P n o sr ops Q St rest xs hs) (hf : Find hs (tb d m t) r := by (focus (with_reducible iterate 40 first | done | exact .here | apply Find.there); done)) : W P n o sr ops Q St rest xs hs := ⟨fun a w ha hw => (k (tb_open (hw.lift hf.lift)).1).run a w ha hw⟩
theorem wwl {d : Nat} {m : Lay} {t : Wld} {r : List HProp} (k : Laid m t → W P n o sr ops Q St rest xs hs) (hf : Find hs (wl d m t) r := by (focus (with_reducible iterate 40 first | done | exact .here | apply Find.there); done)) : W P n o sr ops Q St rest xs hs := ⟨fun a w ha hw => (k (wl_open (hw.lift hf.lift)).1).run a w ha hw⟩
theorem ctb {d : Nat} {m : Tay} {t : Tab} {r : List HProp} {c : Code} (k : TLaid m t → C P n o Q c xs hs) (hf : Find hs (tb d m t) r := by (focus (with_reducible iterate 40 first | done | exact .here | apply Find.there); done)) : C P n o Q c xs hs := ⟨fun a w ha hw => (k (tb_open (hw.lift hf.lift)).1).run a w ha hw⟩
theorem cwl {d : Nat} {m : Lay} {t : Wld} {r : List HProp} {c : Code} (k : Laid m t → C P n o Q c xs hs) (hf : Find hs (wl d m t) r := by (focus (with_reducible iterate 40 first | done | exact .here | apply Find.there); done)) : C P n o Q c xs hs := ⟨fun a w ha hw => (k (wl_open (hw.lift hf.lift)).1).run a w ha hw⟩
end
end Go.Proofs.YtlibnpdbcjgegaaGreat
