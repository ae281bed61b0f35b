/-
  The same rules with what they make written out.
-/
import Derived.Test.YtlibnpdbcjgegaaGreatSLMany
namespace Go.SL
set_option linter.unusedVariables false
/-- Parts of one cell each, laid one behind the other. -/
inductive Fill1 (offs : List (Nat × Nat)) : List Value → List (Nat × Value) → List Value → Prop
  | nil {z : List Value} : Fill1 offs z [] z
  | cons {z z' cells : List Value} {i off : Nat} {v : Value} {es : List (Nat × Value)} (ho : offs[i]? = some (off, 1)) (h1 : v.oneCell' = true) (hs : SetAt z off v z') (k : Fill1 offs z' es cells) : Fill1 offs z ((i, v) :: es) cells
theorem Fill1.fill {offs : List (Nat × Nat)} {z cells : List Value} {es : List (Nat × Value)} (h : Fill1 offs z es cells) : Instr.fill (offs[·]?) z.toArray es = some cells.toArray := by
  induction h with
  | nil => rfl
  | cons ho h1 hs k ih =>
    rename_i z z' cells i off v es
    obtain ⟨e1, e2⟩ := hs.eq
    have hc : v.cells = #[v] := by cases v <;> first | rfl | cases h1
    simp only [Instr.fill, ho, hc]
    rw [if_neg (by simp; omega)]
    subst e1
    simpa using ih
section
variable {P : Program} {n : Nat} {o : Outer} {sr : List Tmp} {ops : Array Oper} {Q : Post} {St : List HProp} {rest : List Oper} {xs : Env} {hs : List HProp}
variable {d : Option Tmp} {ty : TypeId} {pos : String} {af : Array Edge}
theorem W.bldr {t : TypeId} {parts : Array (Nat × Operand)} {es : List (Nat × Value)} {z : List Value} {offs : List (Nat × Nat)} {cells : List Value} [ht : StructTy P t z offs]
    (hp : evq xs parts.toList = some es) (hf : Fill1 offs z es cells) (hd : fits n d = true)
    (k : W P n o sr ops Q St rest (put d (.agg cells.toArray) xs) hs) : W P n o sr ops Q St (⟨d, .build t parts, ty, pos, af, none⟩ :: rest) xs hs :=
  W.build (evq_map hp) hf.fill hd k
theorem W.box_agg {t : Nat} {x : Operand} {vs : List Value} (hx : ev xs x = some (.agg vs.toArray)) (hd : fits n d = true) (hI : Incl St hs) (k : ∀ b, W P n o sr ops Q St rest (put d (.pointer (some ⟨b, 0, none⟩)) xs) (blk b t vs :: hs)) :
    W P n o sr ops Q St (⟨d, .box t x, ty, pos, af, none⟩ :: rest) xs hs := W.box hx hd hI k
theorem W.box1 {t : Nat} {x : Operand} {v : Value} (hx : ev xs x = some v) (h1 : v.oneCell' = true) (hd : fits n d = true) (hI : Incl St hs) (k : ∀ b, W P n o sr ops Q St rest (put d (.pointer (some ⟨b, 0, none⟩)) xs) (blk b t [v] :: hs)) :
    W P n o sr ops Q St (⟨d, .box t x, ty, pos, af, none⟩ :: rest) xs hs := by
  have hc : v.cells.toList = [v] := by cases v <;> first | rfl | cases h1
  exact W.box hx hd hI (by rw [hc]; exact k)
theorem W.alloc_agg {t : Nat} {vs : List Value} [hz : Zero P t (.agg vs.toArray)] (hd : fits n d = true) (hI : Incl St hs) (k : ∀ b, W P n o sr ops Q St rest (put d (.pointer (some ⟨b, 0, none⟩)) xs) (blk b t vs :: hs)) :
    W P n o sr ops Q St (⟨d, .alloc t, ty, pos, af, none⟩ :: rest) xs hs := W.alloc (hz := hz) hd hI k
theorem W.alloc1 {t : Nat} {v : Value} [hz : Zero P t v] (h1 : v.oneCell' = true) (hd : fits n d = true) (hI : Incl St hs) (k : ∀ b, W P n o sr ops Q St rest (put d (.pointer (some ⟨b, 0, none⟩)) xs) (blk b t [v] :: hs)) :
    W P n o sr ops Q St (⟨d, .alloc t, ty, pos, af, none⟩ :: rest) xs hs := by
  have hc : v.cells.toList = [v] := by cases v <;> first | rfl | cases h1
  exact W.alloc (hz := hz) hd hI (by rw [hc]; exact k)
/-- A whole struct read from its variable. -/
theorem W.agg_all {t b T m : Nat} {x : Operand} {cs : List Value} {r : List HProp} [h1 : AggTy P t m] (hx : ev xs x = some (.pointer (some ⟨b, 0, none⟩))) (hf : Find hs (blk b T cs) r) (hm : cs.length = m)
    (hns : stbD sr d = false) (hd : fits n d = true) (k : W P n o sr ops Q St rest (put d (.agg cs.toArray) xs) hs) : W P n o sr ops Q St (⟨d, .load t x, ty, pos, af, none⟩ :: rest) xs hs :=
  W.agg hx hf (by rw [List.drop_zero, List.take_of_length_le (by omega)]) hm hns hd k
/-- A whole struct written into its variable. -/
theorem W.store_all {t b T m : Nat} {x y : Operand} {vs cs : List Value} {r : List HProp} [h1 : AggTy P t m] (hx : ev xs x = some (.pointer (some ⟨b, 0, none⟩))) (hy : ev xs y = some (.agg vs.toArray)) (hm : vs.length = m) (h0 : vs.all (·.oneCell') = true)
    (hf : Find hs (blk b T cs) r) (hl : cs.length = m) (hI : Keep (freeSt sr ops ⟨none, .store t x y, ty, pos, af, none⟩) St (blk b T vs :: r)) (k : W P n o sr ops Q St rest xs (blk b T vs :: r)) :
    W P n o sr ops Q St (⟨none, .store t x y, ty, pos, af, none⟩ :: rest) xs hs :=
  W.op_skip rfl rfl rfl fun a w ha hw => by
    have hw' := hw.lift hf.lift
    obtain ⟨w', hrun, hs'⟩ := Sat.storeCells (P := P) (off := 0) vs 0 cs w hw' (by omega) (fun v hv => List.all_eq_true.1 h0 v hv)
    rw [Nat.add_zero, setAll_all _ _ (by omega)] at hs'
    refine ⟨w', _, ?_, hs', hI, k⟩
    show ((Instr.storeAt t (a.eval x) (a.eval y)) >>= fun _ => pure Next.skip).run P w = _
    rw [ha.ev hx, ha.ev hy, Sem.run_bind]
    simp [Instr.storeAt, Instr.sureAddr, storeVar, h1.size, Value.cells, hm, hrun]
theorem E.bodyca {fn : Func} {a : Tmp} {t m b T : Nat} {cs : List Value} {r Rs Ps : List HProp} {q : Value → List HProp → Prop} {e : Exit} [h1 : AggTy P t m] (hf : fn.results = #[.cell a t]) (he : e = .ret ∨ e = .normal)
    (ha : get xs a = some (.pointer (some ⟨b, 0, none⟩))) (hfd : Find hs (blk b T cs) r) (hm : cs.length = m) (hq : q (.agg cs.toArray) Ps) (hh : Ent hs Ps Rs) : E n o (bodyQ P fn o Rs q) e xs hs :=
  E.bodyc1 hf he ha hfd (by rw [List.drop_zero, List.take_of_length_le (by omega)]) hm hq hh
theorem retca {fn : Func} {a : Tmp} {t m b T : Nat} {cs : List Value} {r Rs Ps : List HProp} {q : Value → List HProp → Prop} {e : Exit} [h1 : AggTy P t m] (hq : q (.agg cs.toArray) Ps) (hf : fn.results = #[.cell a t] := by exact rfl) (he : e = .ret ∨ e = .normal := by first | exact .inl rfl | exact .inr rfl)
    (ha : get xs a = some (.pointer (some ⟨b, 0, none⟩)) := by exact rfl) (hfd : Find hs (blk b T cs) r := by (focus (with_reducible iterate 40 first | done | exact .here | apply Find.there); done)) (hm : cs.length = m := by exact rfl) (hh : Ent hs Ps Rs := by (focus ((repeat (first | exact Ent.done | with_reducible exact Ent.same | (apply Ent.take; (first | (focus (with_reducible iterate 40 first | done | exact .here | apply Find.there); done) | (focus (iterate 40 first | done | exact .here | apply Find.there); done))) | (apply Ent.emp (sl_emp _ _)) | apply Ent.drop)); first | done | fail))) : E n o (bodyQ P fn o Rs q) e xs hs := E.bodyca hf he ha hfd hm hq hh
theorem E.bodyca2 {fn : Func} {a u : Tmp} {t m b T : Nat} {v' : Value} {cs : List Value} {r Rs Ps : List HProp} {q : Value → List HProp → Prop} {e : Exit} [h1 : AggTy P t m] (hf : fn.results = #[.cell a t, .tmp u]) (he : e = .ret ∨ e = .normal)
    (ha : get xs a = some (.pointer (some ⟨b, 0, none⟩))) (hfd : Find hs (blk b T cs) r) (hm : cs.length = m) (hv' : get xs u = some v') (hq : q (.tuple #[.agg cs.toArray, v']) Ps) (hh : Ent hs Ps Rs) : E n o (bodyQ P fn o Rs q) e xs hs :=
  E.bodyc2 hf he ha hfd (by rw [List.drop_zero, List.take_of_length_le (by omega)]) hm hv' hq hh
theorem retca2 {fn : Func} {a u : Tmp} {t m b T : Nat} {v' : Value} {cs : List Value} {r Rs Ps : List HProp} {q : Value → List HProp → Prop} {e : Exit} [h1 : AggTy P t m] (hq : q (.tuple #[.agg cs.toArray, v']) Ps) (hf : fn.results = #[.cell a t, .tmp u] := by exact rfl) (he : e = .ret ∨ e = .normal := by first | exact .inl rfl | exact .inr rfl)
    (ha : get xs a = some (.pointer (some ⟨b, 0, none⟩)) := by exact rfl) (hfd : Find hs (blk b T cs) r := by (focus (with_reducible iterate 40 first | done | exact .here | apply Find.there); done)) (hm : cs.length = m := by exact rfl) (hv' : get xs u = some v' := by exact rfl) (hh : Ent hs Ps Rs := by (focus ((repeat (first | exact Ent.done | with_reducible exact Ent.same | (apply Ent.take; (first | (focus (with_reducible iterate 40 first | done | exact .here | apply Find.there); done) | (focus (iterate 40 first | done | exact .here | apply Find.there); done))) | (apply Ent.emp (sl_emp _ _)) | apply Ent.drop)); first | done | fail))) : E n o (bodyQ P fn o Rs q) e xs hs := E.bodyca2 hf he ha hfd hm hv' hq hh
/-- s[:b], its header alone. -/
theorem W.slh {t e sz by_ m c : Nat} {x hi : Operand} {A : Option Addr} {kd : IntKind} {b : Int} [ht : SliceTy P t e sz by_] (hx : ev xs x = some (.slice A m c)) (hh : ev xs hi = some (.int kd b)) (h0 : 0 ≤ b) (h1 : b ≤ c) (hd : fits n d = true)
    (k : W P n o sr ops Q St rest (put d (.slice A b.toNat c) xs) hs) : W P n o sr ops Q St (⟨d, .slice t x none (some hi) none, ty, pos, af, none⟩ :: rest) xs hs := by
  refine W.val rfl (by simp only [kind]; first | (intro h; cases h; done) | (repeat' split) <;> (intro h; cases h)) hd (v := .slice A b.toNat c) (fun ac w ha => ?_) k
  show ((Instr.sliceAt t (ac.eval x) none (some (ac.eval hi)) none) >>= fun v => pure (Next.value v)).run P w = _
  rw [ha.ev hx, ha.ev hh, Sem.run_bind, run_sliceAt_to h0 h1]; rfl
theorem E.one {e : Exit} {A C : HProp} {r : List HProp} (hA : Find hs A r) (t : ∀ w, Sat o w (A :: r) → Sat o w (C :: r)) (k : E n o Q e xs (C :: r)) : E n o Q e xs hs :=
  E.turn (fun w hw => t w (hw.lift hA.lift)) k
theorem E.two {e : Exit} {A B C : HProp} {r r2 : List HProp} (hA : Find hs A r) (hB : Find r B r2) (t : ∀ w, Sat o w (A :: B :: r2) → Sat o w (C :: r2)) (k : E n o Q e xs (C :: r2)) : E n o Q e xs hs :=
  E.turn (fun w hw => t w ((hw.lift hA.lift).lift (hB.lift.cons _))) k
theorem C.one {c : Code} {A C' : HProp} {r : List HProp} (hA : Find hs A r) (t : ∀ w, Sat o w (A :: r) → Sat o w (C' :: r)) (k : C P n o Q c xs (C' :: r)) : C P n o Q c xs hs :=
  C.turn (fun w hw => t w (hw.lift hA.lift)) k
theorem C.two {c : Code} {A B C' : HProp} {r r2 : List HProp} (hA : Find hs A r) (hB : Find r B r2) (t : ∀ w, Sat o w (A :: B :: r2) → Sat o w (C' :: r2)) (k : C P n o Q c xs (C' :: r2)) : C P n o Q c xs hs :=
  C.turn (fun w hw => t w ((hw.lift hA.lift).lift (hB.lift.cons _))) k
end
end Go.SL
