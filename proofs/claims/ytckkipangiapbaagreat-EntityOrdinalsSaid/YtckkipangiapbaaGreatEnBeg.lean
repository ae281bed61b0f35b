/-
  The beginning of layer 16's statements.
-/
import Derived.Test.YtckkipangiapbaaGreatEnMay3
namespace Go.Proofs.YtckkipangiapbaaGreat
open Go.SL
set_option linter.unusedVariables false
set_option linter.unusedSimpArgs false
set_option maxHeartbeats 8000000
set_option maxRecDepth 20000
section
variable {P : Program} {n : Nat} {o : Outer} {sr : List Tmp} {ops : Array Oper} {Q : Post} {St : List HProp} {rest : List Oper} {xs : Env} {hs : List HProp}
theorem wtb {d : Nat} {m : Tay} {t : Tab} {r : List HProp} (k : TLaid m t → W P n o sr ops Q St rest xs hs) (hf : Find hs (tb d m t) r := by (focus (with_reducible iterate 40 first | done | exact .here | apply Find.there); done)) : W P n o sr ops Q St rest xs hs := ⟨fun a w ha hw => (k (tb_open (hw.lift hf.lift)).1).run a w ha hw⟩
theorem wwl {d : Nat} {m : Lay} {t : Wld} {r : List HProp} (k : Laid m t → W P n o sr ops Q St rest xs hs) (hf : Find hs (wl d m t) r := by (focus (with_reducible iterate 40 first | done | exact .here | apply Find.there); done)) : W P n o sr ops Q St rest xs hs := ⟨fun a w ha hw => (k (wl_open (hw.lift hf.lift)).1).run a w ha hw⟩
theorem ctb {d : Nat} {m : Tay} {t : Tab} {r : List HProp} {c : Code} (k : TLaid m t → C P n o Q c xs hs) (hf : Find hs (tb d m t) r := by (focus (with_reducible iterate 40 first | done | exact .here | apply Find.there); done)) : C P n o Q c xs hs := ⟨fun a w ha hw => (k (tb_open (hw.lift hf.lift)).1).run a w ha hw⟩
theorem cwl {d : Nat} {m : Lay} {t : Wld} {r : List HProp} {c : Code} (k : Laid m t → C P n o Q c xs hs) (hf : Find hs (wl d m t) r := by (focus (with_reducible iterate 40 first | done | exact .here | apply Find.there); done)) : C P n o Q c xs hs := ⟨fun a w ha hw => (k (wl_open (hw.lift hf.lift)).1).run a w ha hw⟩
end
theorem ri_of {l : List Int} {most : Nat} (h1 : l.length ≤ most) (h2 : (l.all fun x => decide (1 ≤ x ∧ x ≤ 1000)) = true) (h3 : ((l.zip l.tail).all fun p => decide (p.1 < p.2)) = true) : Ri l most := by
  refine ⟨h1, fun x hx => by simpa using List.all_eq_true.1 h2 x hx, fun k x y hx hy => ?_⟩
  have : (l.zip l.tail)[k]? = some (x, y) := by rw [List.getElem?_zip_eq_some]; exact ⟨hx, by rw [List.getElem?_tail]; exact hy⟩
  simpa using List.all_eq_true.1 h3 _ (List.mem_of_getElem? this)
theorem base_good : Good baseT where
  ne := by decide
  rr := ri_of (by decide) (by decide) (by decide)
  rp := ri_of (by decide) (by decide) (by decide)
  rm := ri_of (by decide) (by decide) (by decide)
  rc := ri_of (by decide) (by decide) (by decide)
  rq := ri_of (by decide) (by decide) (by decide)
  rs := ri_of (by decide) (by decide) (by decide)
  ro := by
    intro r hr
    simp only [baseT, List.mem_cons, List.not_mem_nil, or_false] at hr
    rcases hr with rfl | rfl | rfl | rfl | rfl | rfl | rfl
    all_goals refine ⟨by kernel_rfl, by decide, by decide, fun x hx => ?_⟩
    all_goals simp only [Rm.exits, List.mem_cons, List.not_mem_nil, or_false] at hx
    all_goals rcases hx with rfl | rfl | rfl | rfl | rfl | rfl
    all_goals exact ⟨by decide, by first | exact .inl rfl | exact .inr ⟨_, rfl⟩⟩
  po := by
    intro r hr
    simp only [baseT, List.mem_cons, List.not_mem_nil, or_false] at hr
    rcases hr with rfl | rfl | rfl | rfl | rfl
    all_goals exact ⟨by kernel_rfl, by decide, by decide, by decide⟩
  mo := by
    intro r hr
    simp only [baseT, List.mem_cons, List.not_mem_nil, or_false] at hr
    rcases hr with rfl | rfl
    all_goals exact ⟨by kernel_rfl, by decide, ⟨_, rfl⟩, by decide, by decide, by decide, by decide⟩
  co := by
    intro r hr
    simp only [baseT, List.mem_cons, List.not_mem_nil, or_false] at hr
    subst hr
    refine ⟨⟨_, rfl⟩, by decide, fun k x y hx hy => ?_, fun x hx => ?_⟩
    · have h1 := List.mem_of_getElem? hx
      have h2 := List.mem_of_getElem? hy
      simp at h1 h2; omega
    · simp only [List.mem_cons, List.not_mem_nil, or_false] at hx
      rcases hx with rfl | rfl <;> exact ⟨by decide, ⟨_, rfl⟩⟩
  qo := by
    intro r hr
    simp only [baseT, List.mem_cons, List.not_mem_nil, or_false] at hr
    rcases hr with rfl | rfl
    all_goals exact ⟨⟨by decide, ⟨_, rfl⟩⟩, by decide, by decide, ⟨by decide, by first | exact .inl rfl | exact .inr ⟨_, rfl⟩⟩⟩
  so := by
    intro r hr
    simp only [baseT, List.mem_cons, List.not_mem_nil, or_false] at hr
    subst hr
    refine ⟨⟨_, _, rfl, rfl, rfl⟩, by decide, ri_of (by decide) (by decide) (by decide), fun x hx => ?_⟩
    simp only [List.mem_cons, List.not_mem_nil, or_false] at hx
    rcases hx with rfl | rfl | rfl <;> exact ⟨_, rfl⟩
theorem base_till : ∀ s ∈ baseT.shops, 0 ≤ s.till ∧ s.till ≤ 1099511627776 := by decide
theorem NewBase_spec (e : Nat) (mt : Tay) (lt : TLaid mt baseT) : Trip Tryz.prog 8 [.pointer (some ⟨e, 0, none⟩)] [tb e mt baseT] (fun v Ps => ∃ d m, v = .pointer (some ⟨d, 0, none⟩) ∧ Ps = [tb e mt baseT, wl d m (newW baseT)]) :=
  NewP_spec e mt baseT base_good lt base_till (tb e mt baseT)
theorem begun16_spec : Trip Tryz.prog 7 [] [] (fun v Ps => v = .bool true ∧ Ps = []) := by
  refine Trip.of (m := 51) Tryz.func7 rfl rfl rfl ?_
  intro o Rs
  simp only [List.cons_append, List.nil_append, enumFrom]
  have F1 := Base_spec
  refine go ?_
  refine ⟨?_, by simp⟩ <;> intros
  rename_i e mt
  refine wtb fun lt => ?_
  have F2 := NewBase_spec e mt lt
  have hm2 : (newW baseT).mobs.length = 2 := rfl
  have hn2 : (newW baseT).next = 3 := rfl
  have hg2 : (newW baseT).minted = 50 := by kernel_rfl
  refine go ?_
  refine ⟨?_, by simp⟩ <;> intros
  rename_i d m e2 mt2
  refine wtb (d := e2) (m := mt2) (t := baseT) fun lt2 => ?_
  refine wwl (d := d) (m := m) (t := newW baseT) fun lm => ?_
  have F3 := May_new d e2 m mt2 baseT base_good lt2 (newW baseT) rfl lm (wl d m (newW baseT)) (tb e2 mt2 baseT)
  have F4 := LevelP_spec 250 (by decide) (by decide)
  have F5 := MaxHpP_spec 250 (by decide) (by decide)
  have F6 := CharP_spec d m (newW baseT) [120] (by decide) lm (wl d m (newW baseT))
  rw [show levelN 250 = 3 from rfl] at F4
  rw [show maxHpN 250 = 30 from rfl] at F5
  rw [show iv (charI (newW baseT) [120]) = -1 from rfl] at F6
  refine go ?_
  refine ⟨?_, by simp⟩ <;> intros
  rename_i e3 mt3
  have F7 := StartP_spec e3 mt3 baseT (by decide) (tb e3 mt3 baseT)
  rw [show startR baseT = 1 from rfl] at F7
  refine go ?_
  simp
end Go.Proofs.YtckkipangiapbaaGreat
