/-
  The base tables.
-/
import Derived.Test.YtlibnpdbcjgegaaGreatWdTab
namespace Go.Proofs.YtlibnpdbcjgegaaGreat
open Go.SL
set_option linter.unusedVariables false
set_option linter.unusedSimpArgs false
set_option maxHeartbeats 8000000
set_option maxRecDepth 20000
theorem fill_more {p q : Nat → Option (Nat × Nat)} (h : ∀ i x, p i = some x → q i = some x) : ∀ (es : List (Nat × Value)) (z c : Array Value), Instr.fill p z es = some c → Instr.fill q z es = some c
  | [], _, _, k => k
  | (i, v) :: es, z, c, k => by
    unfold Instr.fill at k ⊢
    cases hp : p i with
    | none => rw [hp] at k; cases k
    | some x =>
      rw [hp] at k
      rw [h i x hp]
      obtain ⟨off, size⟩ := x
      simp only at k ⊢
      split at k
      · cases k
      · rename_i hc
        rw [if_neg hc]
        exact fill_more h es _ _ k
/-- An array of one-celled elements is built as a struct is. -/
theorem arr_struct {P : Program} {t : TypeId} {L e : Nat} {z : Value} (ht : ArrTy P t L e 1) (hz : (P.info? t).bind (·.zero) = some z) : StructTy P t z.cells.toList ((List.range L).map fun i => (i, 1)) := by
  refine ⟨fun parts cells w hf => ?_⟩
  have hz2 : (zeroValue t).run P w = .ok z w := by
    cases hi : P.info? t with
    | none => rw [hi] at hz; cases hz
    | some i => rw [hi] at hz; simp only [Option.bind_some] at hz; simp [zeroValue, typeInfo, hi, hz]
  obtain ⟨inf, hi2, hsz⟩ := ht.info
  have hs : (sizeOf e).run P w = .ok 1 w := by simp [sizeOf, typeInfo, hi2, hsz]
  have hf' : Instr.fill (fun i => some (i * 1, 1)) z.cells parts.toList = some cells := by
    refine fill_more (fun i x hx => ?_) _ _ _ (by simpa using hf)
    cases hr : (List.range L)[i]? with
    | none => rw [hr] at hx; cases hx
    | some j =>
      rw [hr] at hx
      have : j = i := by
        have := List.getElem?_eq_some_iff.1 hr
        obtain ⟨h1, h2⟩ := this
        rw [List.getElem_range] at h2; exact h2.symm
      subst this
      simpa using hx
  simp only [Instr.build, Sem.run_bind, hz2, Result.andThen_ok, run_underlying ht.und, hs, hf', Sem.run_pure]
instance arr6 : StructTy Tryz.prog 110 [.int .i64 0, .int .i64 0, .int .i64 0, .int .i64 0, .int .i64 0, .int .i64 0] [(0, 1), (1, 1), (2, 1), (3, 1), (4, 1), (5, 1)] :=
  (arr_struct (P := Tryz.prog) (t := 110) (L := 6) (e := 3) (z := .agg #[.int .i64 0, .int .i64 0, .int .i64 0, .int .i64 0, .int .i64 0, .int .i64 0]) inferInstance (by kernel_rfl) : StructTy Tryz.prog 110 (Value.agg #[.int .i64 0, .int .i64 0, .int .i64 0, .int .i64 0, .int .i64 0, .int .i64 0]).cells.toList ((List.range 6).map fun i => (i, 1)))
def baseT : Tab where
  rooms := [⟨1, [121, 97, 114, 100], 0, 0, 2, 3, 4, 5, 6, 0⟩, ⟨2, [115, 104, 111, 112], 1, 0, 0, 0, 1, 0, 0, 0⟩, ⟨3, [98, 97, 110, 107], 2, 0, 0, 7, 0, 1, 0, 0⟩, ⟨4, [102, 111, 114, 103, 101], 3, 0, 1, 0, 0, 0, 0, 0⟩, ⟨5, [104, 111, 117, 115, 101], 4, 30, 0, 1, 0, 0, 0, 0⟩, ⟨6, [104, 97, 108, 108], 5, 0, 0, 0, 0, 0, 0, 1⟩, ⟨7, [99, 97, 118, 101], 0, 0, 0, 0, 0, 3, 0, 0⟩]
  protos := [⟨1, [115, 119, 111, 114, 100], 1, 4, 20⟩, ⟨2, [99, 111, 97, 116], 2, 2, 11⟩, ⟨3, [111, 114, 101], 0, 0, 3⟩, ⟨4, [97, 120, 101], 1, 6, 1⟩, ⟨5, [103, 101, 109], 0, 0, 0⟩]
  mobs := [⟨1, [114, 97, 116], 1, 4, 1, 40, 7⟩, ⟨2, [111, 103, 114, 101], 7, 30, 9, 300, 90⟩]
  recipes := [⟨4, [3, 3]⟩]
  quests := [⟨1, 3, 2, 15, 5⟩, ⟨2, 5, 1, 0, 0⟩]
  shops := [⟨2, 50, [1, 2, 3]⟩]
theorem Base_spec : Trip Tryz.prog 27 [] [] (fun v Ps => ∃ e mt, v = .pointer (some ⟨e, 0, none⟩) ∧ Ps = [tb e mt baseT]) := by
  refine Trip.of (m := 36) Tryz.func27 rfl rfl rfl ?_
  intro o Rs
  simp only [List.cons_append, List.nil_append, enumFrom]
  refine go ?_
  refine ⟨?_, by simp⟩ <;> intros
  refine W.buildSlice Xr baseT.rooms (vs := baseT.rooms.map fun r => .agg (rmC r).toArray) rfl (by decide) (by kernel_rfl) (by kernel_rfl) rfl (by (first | exact Keep.nil | (focus ((repeat (first | exact Incl.nil | (apply Incl.cons; (focus (with_reducible iterate 40 first | done | exact .here | apply Find.there); done)))); first | done | fail)) | (focus (apply Keep.incl; (repeat (first | exact Incl.nil | (apply Incl.cons; (focus (with_reducible iterate 40 first | done | exact .here | apply Find.there); done)))); first | done | fail)) | exact Keep.free (by kernel_rfl))) fun b1 => ?_
  refine go ?_
  refine ⟨?_, by simp⟩ <;> intros
  refine W.buildSlice Xp baseT.protos (vs := baseT.protos.map fun r => .agg (proC r).toArray) rfl (by decide) (by kernel_rfl) (by kernel_rfl) rfl (by (first | exact Keep.nil | (focus ((repeat (first | exact Incl.nil | (apply Incl.cons; (focus (with_reducible iterate 40 first | done | exact .here | apply Find.there); done)))); first | done | fail)) | (focus (apply Keep.incl; (repeat (first | exact Incl.nil | (apply Incl.cons; (focus (with_reducible iterate 40 first | done | exact .here | apply Find.there); done)))); first | done | fail)) | exact Keep.free (by kernel_rfl))) fun b2 => ?_
  refine go ?_
  refine ⟨?_, by simp⟩ <;> intros
  refine W.buildSlice Xm baseT.mobs (vs := baseT.mobs.map fun r => .agg (mprC r).toArray) rfl (by decide) (by kernel_rfl) (by kernel_rfl) rfl (by (first | exact Keep.nil | (focus ((repeat (first | exact Incl.nil | (apply Incl.cons; (focus (with_reducible iterate 40 first | done | exact .here | apply Find.there); done)))); first | done | fail)) | (focus (apply Keep.incl; (repeat (first | exact Incl.nil | (apply Incl.cons; (focus (with_reducible iterate 40 first | done | exact .here | apply Find.there); done)))); first | done | fail)) | exact Keep.free (by kernel_rfl))) fun b3 => ?_
  refine go ?_
  refine ⟨?_, by simp⟩ <;> intros
  rename_i b4
  refine W.buildSlice Xc [((⟨4, [3, 3]⟩ : Rcp), (some ⟨b4, 0, none⟩, 2))] (vs := [.agg (rcpC ⟨4, [3, 3]⟩ (some ⟨b4, 0, none⟩, 2)).toArray]) rfl (Nat.le_of_ble_eq_true rfl) (by kernel_rfl) (by kernel_rfl) rfl (by (first | exact Keep.nil | (focus ((repeat (first | exact Incl.nil | (apply Incl.cons; (focus (with_reducible iterate 40 first | done | exact .here | apply Find.there); done)))); first | done | fail)) | (focus (apply Keep.incl; (repeat (first | exact Incl.nil | (apply Incl.cons; (focus (with_reducible iterate 40 first | done | exact .here | apply Find.there); done)))); first | done | fail)) | exact Keep.free (by kernel_rfl))) fun b5 => ?_
  refine go ?_
  refine ⟨?_, by simp⟩ <;> intros
  refine W.buildSlice Xq baseT.quests (vs := baseT.quests.map fun r => .agg (qstC r).toArray) rfl (by decide) (by kernel_rfl) (by kernel_rfl) rfl (by (first | exact Keep.nil | (focus ((repeat (first | exact Incl.nil | (apply Incl.cons; (focus (with_reducible iterate 40 first | done | exact .here | apply Find.there); done)))); first | done | fail)) | (focus (apply Keep.incl; (repeat (first | exact Incl.nil | (apply Incl.cons; (focus (with_reducible iterate 40 first | done | exact .here | apply Find.there); done)))); first | done | fail)) | exact Keep.free (by kernel_rfl))) fun b6 => ?_
  refine go ?_
  refine ⟨?_, by simp⟩ <;> intros
  rename_i b7
  refine W.buildSlice Xs [((⟨2, 50, [1, 2, 3]⟩ : Shp), (some ⟨b7, 0, none⟩, 3))] (vs := [.agg (shpC ⟨2, 50, [1, 2, 3]⟩ (some ⟨b7, 0, none⟩, 3)).toArray]) rfl (Nat.le_of_ble_eq_true rfl) (by kernel_rfl) (by kernel_rfl) rfl (by (first | exact Keep.nil | (focus ((repeat (first | exact Incl.nil | (apply Incl.cons; (focus (with_reducible iterate 40 first | done | exact .here | apply Find.there); done)))); first | done | fail)) | (focus (apply Keep.incl; (repeat (first | exact Incl.nil | (apply Incl.cons; (focus (with_reducible iterate 40 first | done | exact .here | apply Find.there); done)))); first | done | fail)) | exact Keep.free (by kernel_rfl))) fun b8 => ?_
  refine go ?_
  refine ⟨?_, by simp⟩ <;> intros
  rename_i b9
  refine E.turn (fun st hst => nest_nil (E := E64) (e := 3) hst) ?_
  refine E.two (A := sl E64 3 (some ⟨b4, 0, none⟩) [(3 : Int), 3].length [3, 3]) (B := nest E64 3 []) (by (focus (with_reducible iterate 40 first | done | exact .here | apply Find.there); done)) (by (focus (with_reducible iterate 40 first | done | exact .here | apply Find.there); done)) (fun st hst => nest_snoc (p := ([3, 3], (some ⟨b4, 0, none⟩, 2))) hst) ?_
  refine E.turn (fun st hst => nest_nil (E := E64) (e := 3) hst) ?_
  refine E.two (A := sl E64 3 (some ⟨b7, 0, none⟩) [(1 : Int), 2, 3].length [1, 2, 3]) (B := nest E64 3 []) (by (focus (with_reducible iterate 40 first | done | exact .here | apply Find.there); done)) (by (focus (with_reducible iterate 40 first | done | exact .here | apply Find.there); done)) (fun st hst => nest_snoc (p := ([1, 2, 3], (some ⟨b7, 0, none⟩, 3))) hst) ?_
  refine efold (tb b9 ⟨some ⟨b1, 0, none⟩, 7, some ⟨b2, 0, none⟩, 5, some ⟨b3, 0, none⟩, 2, some ⟨b5, 0, none⟩, 1, some ⟨b6, 0, none⟩, 2, some ⟨b8, 0, none⟩, 1, [(some ⟨b4, 0, none⟩, 2)], [(some ⟨b7, 0, none⟩, 3)]⟩ baseT) () (show TLaid ⟨some ⟨b1, 0, none⟩, 7, some ⟨b2, 0, none⟩, 5, some ⟨b3, 0, none⟩, 2, some ⟨b5, 0, none⟩, 1, some ⟨b6, 0, none⟩, 2, some ⟨b8, 0, none⟩, 1, [(some ⟨b4, 0, none⟩, 2)], [(some ⟨b7, 0, none⟩, 3)]⟩ baseT from ⟨rfl, rfl⟩) ?_
  exact ret1 ⟨b9, _, rfl, rfl⟩
end Go.Proofs.YtlibnpdbcjgegaaGreat
