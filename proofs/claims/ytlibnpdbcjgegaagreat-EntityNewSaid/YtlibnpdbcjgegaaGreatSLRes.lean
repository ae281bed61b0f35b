/-
  Results that lie in cells.
-/
import Derived.Test.YtlibnpdbcjgegaaGreatSLEq
namespace Go.SL
set_option linter.unusedVariables false
section
variable {P : Program} {n : Nat} {o : Outer} {Q : Post} {xs : Env} {hs : List HProp}
theorem run_loadVar_agg {t m b i : Nat} {vs : List Value} {w : World} [h1 : AggTy P t m] (hm : vs.length = m) (hc : ∀ (j : Nat) (v : Value), vs[j]? = some v → w.cell? ⟨b, i + j, none⟩ = some v) : (loadVar t ⟨b, i, none⟩).run P w = .ok (.agg vs.toArray) w := by
  have := run_loadCells (P := P) (w := w) b i vs hc
  rw [hm] at this
  simp [loadVar, h1.agg, h1.size, this]
theorem run_loadVar_one {t b i : Nat} {v : Value} {w : World} [h1 : One P t] (hc : w.cell? ⟨b, i, none⟩ = some v) : (loadVar t ⟨b, i, none⟩).run P w = .ok v w := by
  simp [loadVar, h1.agg, hc]
theorem blk_cells {b T i m : Nat} {cs vs : List Value} {r : List HProp} {w : World} (h : Sat o w (blk b T cs :: r)) (hv : (cs.drop i).take m = vs) : ∀ (j : Nat) (v : Value), vs[j]? = some v → w.cell? ⟨b, i + j, none⟩ = some v := fun j v hj => h.blk_cell (by
  subst hv
  rw [List.getElem?_take] at hj
  split at hj
  · rwa [List.getElem?_drop] at hj
  · cases hj)
theorem E.bodyc1 {fn : Func} {a : Tmp} {t m b i T : Nat} {vs cs : List Value} {r Rs Ps : List HProp} {q : Value → List HProp → Prop} {e : Exit} [h1 : AggTy P t m] (hf : fn.results = #[.cell a t]) (he : e = .ret ∨ e = .normal)
    (ha : get xs a = some (.pointer (some ⟨b, i, none⟩))) (hfd : Find hs (blk b T cs) r) (hv : (cs.drop i).take m = vs) (hm : vs.length = m) (hq : q (.agg vs.toArray) Ps) (hh : Ent hs Ps Rs) : E n o (bodyQ P fn o Rs q) e xs hs :=
  E.body he _ (fun ac w hac hw => by
    have hl := run_loadVar_agg (P := P) (t := t) hm (blk_cells (hw.lift hfd.lift) hv)
    have hg' : ac.tmps[a]?.getD undef = .pointer (some ⟨b, i, none⟩) := by rw [hac.get a _ ha]; rfl
    simp [results, hf, hg', asAddr, hl]) hq hh
theorem E.bodyc0 {fn : Func} {a : Tmp} {t b i T : Nat} {v : Value} {cs : List Value} {r Rs Ps : List HProp} {q : Value → List HProp → Prop} {e : Exit} [h1 : One P t] (hf : fn.results = #[.cell a t]) (he : e = .ret ∨ e = .normal)
    (ha : get xs a = some (.pointer (some ⟨b, i, none⟩))) (hfd : Find hs (blk b T cs) r) (hv : cs[i]? = some v) (hq : q v Ps) (hh : Ent hs Ps Rs) : E n o (bodyQ P fn o Rs q) e xs hs :=
  E.body he _ (fun ac w hac hw => by
    have hl := run_loadVar_one (P := P) (t := t) ((hw.lift hfd.lift).blk_cell hv)
    have hg' : ac.tmps[a]?.getD undef = .pointer (some ⟨b, i, none⟩) := by rw [hac.get a _ ha]; rfl
    simp [results, hf, hg', asAddr, hl]) hq hh
theorem E.bodyc2 {fn : Func} {a u : Tmp} {t m b i T : Nat} {v' : Value} {vs cs : List Value} {r Rs Ps : List HProp} {q : Value → List HProp → Prop} {e : Exit} [h1 : AggTy P t m] (hf : fn.results = #[.cell a t, .tmp u]) (he : e = .ret ∨ e = .normal)
    (ha : get xs a = some (.pointer (some ⟨b, i, none⟩))) (hfd : Find hs (blk b T cs) r) (hv : (cs.drop i).take m = vs) (hm : vs.length = m) (hv' : get xs u = some v') (hq : q (.tuple #[.agg vs.toArray, v']) Ps) (hh : Ent hs Ps Rs) : E n o (bodyQ P fn o Rs q) e xs hs :=
  E.body he _ (fun ac w hac hw => by
    have hl := run_loadVar_agg (P := P) (t := t) hm (blk_cells (hw.lift hfd.lift) hv)
    have hg' : ac.tmps[a]?.getD undef = .pointer (some ⟨b, i, none⟩) := by rw [hac.get a _ ha]; rfl
    have hu' : ac.tmps[u]?.getD undef = v' := by rw [hac.get u _ hv']; rfl
    simp [results, hf, hg', hu', asAddr, hl]) hq hh
theorem retc1 {fn : Func} {a : Tmp} {t m b i T : Nat} {vs cs : List Value} {r Rs Ps : List HProp} {q : Value → List HProp → Prop} {e : Exit} [h1 : AggTy P t m] (hq : q (.agg vs.toArray) Ps) (hf : fn.results = #[.cell a t] := by exact rfl) (he : e = .ret ∨ e = .normal := by first | exact .inl rfl | exact .inr rfl)
    (ha : get xs a = some (.pointer (some ⟨b, i, none⟩)) := by exact rfl) (hfd : Find hs (blk b T cs) r := by (focus (with_reducible iterate 40 first | done | exact .here | apply Find.there); done)) (hv : (cs.drop i).take m = vs := by exact rfl) (hm : vs.length = m := by exact rfl) (hh : Ent hs Ps Rs := by (focus ((repeat (first | exact Ent.done | with_reducible exact Ent.same | (apply Ent.take; (first | (focus (with_reducible iterate 40 first | done | exact .here | apply Find.there); done) | (focus (iterate 40 first | done | exact .here | apply Find.there); done))) | (apply Ent.emp (sl_emp _ _)) | apply Ent.drop)); first | done | fail))) : E n o (bodyQ P fn o Rs q) e xs hs := E.bodyc1 hf he ha hfd hv hm hq hh
theorem retc0 {fn : Func} {a : Tmp} {t b i T : Nat} {v : Value} {cs : List Value} {r Rs Ps : List HProp} {q : Value → List HProp → Prop} {e : Exit} [h1 : One P t] (hq : q v Ps) (hf : fn.results = #[.cell a t] := by exact rfl) (he : e = .ret ∨ e = .normal := by first | exact .inl rfl | exact .inr rfl)
    (ha : get xs a = some (.pointer (some ⟨b, i, none⟩)) := by exact rfl) (hfd : Find hs (blk b T cs) r := by (focus (with_reducible iterate 40 first | done | exact .here | apply Find.there); done)) (hv : cs[i]? = some v := by exact rfl) (hh : Ent hs Ps Rs := by (focus ((repeat (first | exact Ent.done | with_reducible exact Ent.same | (apply Ent.take; (first | (focus (with_reducible iterate 40 first | done | exact .here | apply Find.there); done) | (focus (iterate 40 first | done | exact .here | apply Find.there); done))) | (apply Ent.emp (sl_emp _ _)) | apply Ent.drop)); first | done | fail))) : E n o (bodyQ P fn o Rs q) e xs hs := E.bodyc0 hf he ha hfd hv hq hh
theorem retc2 {fn : Func} {a u : Tmp} {t m b i T : Nat} {v' : Value} {vs cs : List Value} {r Rs Ps : List HProp} {q : Value → List HProp → Prop} {e : Exit} [h1 : AggTy P t m] (hq : q (.tuple #[.agg vs.toArray, v']) Ps) (hf : fn.results = #[.cell a t, .tmp u] := by exact rfl) (he : e = .ret ∨ e = .normal := by first | exact .inl rfl | exact .inr rfl)
    (ha : get xs a = some (.pointer (some ⟨b, i, none⟩)) := by exact rfl) (hfd : Find hs (blk b T cs) r := by (focus (with_reducible iterate 40 first | done | exact .here | apply Find.there); done)) (hv : (cs.drop i).take m = vs := by exact rfl) (hm : vs.length = m := by exact rfl) (hv' : get xs u = some v' := by exact rfl) (hh : Ent hs Ps Rs := by (focus ((repeat (first | exact Ent.done | with_reducible exact Ent.same | (apply Ent.take; (first | (focus (with_reducible iterate 40 first | done | exact .here | apply Find.there); done) | (focus (iterate 40 first | done | exact .here | apply Find.there); done))) | (apply Ent.emp (sl_emp _ _)) | apply Ent.drop)); first | done | fail))) : E n o (bodyQ P fn o Rs q) e xs hs := E.bodyc2 hf he ha hfd hv hm hv' hq hh
end
end Go.SL
