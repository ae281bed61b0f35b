/-
  The program's finding by words: N.name.
-/
import Derived.Test.YtckkipangiapbaaGreatEnFind
import Derived.Test.YtckkipangiapbaaGreatWdAct
import Derived.Test.YtckkipangiapbaaGreatShelf
namespace Go.Proofs.YtckkipangiapbaaGreat
open Go.SL Go.RowKit
set_option linter.unusedVariables false
set_option linter.unusedSimpArgs false
set_option maxHeartbeats 8000000
set_option maxRecDepth 20000
theorem results_tm3 {fn : Func} {t u z : Tmp} (h : fn.results = #[.tmp t, .tmp u, .tmp z]) (tmps : Array Value) (P : Program) (w : World) :
    (results fn tmps).run P w = .ok (.tuple #[tmps.getD t undef, tmps.getD u undef, tmps.getD z undef]) w := by
  simp [results, h]
theorem retn3 {n : Nat} {o : Outer} {P : Program} {xs : Env} {hs : List HProp} {fn : Func} {t u z : Tmp} {Rs Ps : List HProp} {q : Value → List HProp → Prop} {e : Exit} {v v' v'' : Value} (hq : q (.tuple #[v, v', v'']) Ps) (hf : fn.results = #[.tmp t, .tmp u, .tmp z] := by exact rfl) (he : e = .ret ∨ e = .normal := by first | exact .inl rfl | exact .inr rfl)
    (hv : get xs t = some v := by exact rfl) (hv' : get xs u = some v' := by exact rfl) (hv'' : get xs z = some v'' := by exact rfl) (hh : Ent hs Ps Rs := by (focus ((repeat (first | exact Ent.done | with_reducible exact Ent.same | (apply Ent.take; (first | (focus (with_reducible iterate 40 first | done | exact .here | apply Find.there); done) | (focus (iterate 40 first | done | exact .here | apply Find.there); done))) | (apply Ent.emp (sl_emp _ _)) | apply Ent.drop)); first | done | fail))) : E n o (bodyQ P fn o Rs q) e xs hs :=
  E.body he _ (fun a w ha _ => by rw [results_tm3 hf, Array.getD_eq_getD_getElem?, Array.getD_eq_getD_getElem?, Array.getD_eq_getD_getElem?, ha.get t v hv, ha.get u v' hv', ha.get z v'' hv'']; rfl) hq hh
theorem byte_find (c : UInt8) : ∀ s : List UInt8, Lib.indexByte s c = iv (s.findIdx? (· == c))
  | [] => rfl
  | a :: r => by
    rw [Lib.indexByte, List.findIdx?_cons, byte_find c r]
    by_cases h : (a == c) = true
    · rw [if_pos h, if_pos h]; rfl
    · rw [if_neg h, if_neg h]
      cases hr : r.findIdx? (· == c) with
      | none => rfl
      | some i =>
        rw [if_neg (by simp only [iv, beq_iff_eq]; omega)]
        simp [iv]
theorem SIndex_spec (s : List UInt8) (c : UInt8) : Trip Tryz.prog 223 [str s, str [c]] [] (fun u Ps => u = .int .i64 (iv (s.findIdx? (· == c))) ∧ Ps = []) := by
  constructor; intro o w Rs hw
  refine (Tryz.stringslite_Index_one ⟨s.toArray⟩ c w).mono ?_
  rintro e w' ⟨rfl, rfl⟩
  exact ⟨_, _, rfl, ⟨by rw [← byte_find], rfl⟩, hw⟩
def cutB (s : Tx) : Tx := match s.findIdx? (· == 46) with
  | none => s
  | some i => s.take i
def cutA (s : Tx) : Tx := match s.findIdx? (· == 46) with
  | none => []
  | some i => s.drop (i + 1)
theorem SCut_spec (s : Tx) (hs : s.length ≤ 100000) : Trip Tryz.prog 178 [str s, str [46]] [] (fun u Ps => u = .tuple #[str (cutB s), str (cutA s), .bool (s.findIdx? (· == 46)).isSome] ∧ Ps = []) := by
  refine Trip.of (m := 23) Tryz.func178 rfl rfl rfl ?_
  intro o Rs
  simp only [List.cons_append, List.nil_append, enumFrom]
  have F1 := SIndex_spec s 46
  unfold cutB cutA
  cases h : s.findIdx? (· == 46) with
  | none =>
    rw [h] at F1
    simp only [iv] at F1
    simp only [Option.isSome_none]
    refine go ?_
    refine ⟨?_, by simp⟩ <;> intros
    exact retn3 ⟨rfl, rfl⟩
  | some i =>
    have hi := find_lt h
    rw [h] at F1
    simp only [iv] at F1
    simp only [Option.isSome_some]
    refine go ?_
    (repeat' (first | exact trivial | apply And.intro | intro _))
    all_goals exact retn3 ⟨rfl, rfl⟩
theorem Cut46_spec (s : Tx) (hs : s.length ≤ 100000) : Trip Tryz.prog 102 [str s, str [46]] [] (fun u Ps => u = .tuple #[str (cutB s), str (cutA s), .bool (s.findIdx? (· == 46)).isSome] ∧ Ps = []) := by
  refine Trip.of (m := 13) Tryz.func102 rfl rfl rfl ?_
  intro o Rs
  simp only [List.cons_append, List.nil_append, enumFrom]
  have F1 := SCut_spec s hs
  refine go ?_
  refine ⟨?_, by simp⟩ <;> intros
  exact retn3 ⟨rfl, rfl⟩
/-- The name, the number, whether it is one. -/
def nthP (s : Tx) : Tx × Int × Bool := match s.findIdx? (· == 46) with
  | none => (s, 1, true)
  | some i => (s.drop (i + 1), (numM (s.take i)).1, (numM (s.take i)).2 && decide (1 ≤ (numM (s.take i)).1) && decide ((numM (s.take i)).1 ≤ 99))
theorem nth_ord (s : Tx) : ordN numM s = if (nthP s).2.2 then ((nthP s).2.1, (nthP s).1) else (0, []) := by
  unfold ordN nthP
  cases h : s.findIdx? (· == 46) with
  | none => rfl
  | some i =>
    simp only
    by_cases h1 : (numM (s.take i)).2 = true
    · by_cases h2 : 1 ≤ (numM (s.take i)).1
      · by_cases h3 : (numM (s.take i)).1 ≤ 99
        · rw [if_neg (by simp [h1]; omega), h1, decide_eq_true h2, decide_eq_true h3]; rfl
        · rw [if_pos (by right; right; omega), decide_eq_false h3]; simp
      · rw [if_pos (by right; left; omega), decide_eq_false h2]; simp
    · rw [if_pos (by left; simpa using h1)]
      rw [show (numM (s.take i)).2 = false from by simpa using h1]; simp
theorem Nth_spec (s : Tx) (hs : s.length ≤ 100000) : Trip Tryz.prog 56 [str s] [] (fun u Ps => u = .tuple #[str (nthP s).1, .int .i64 (nthP s).2.1, .bool (nthP s).2.2] ∧ Ps = []) := by
  refine Trip.of (m := 35) Tryz.func56 rfl rfl rfl ?_
  intro o Rs
  simp only [List.cons_append, List.nil_append, enumFrom]
  have F1 := Cut46_spec s hs
  unfold nthP
  unfold cutB cutA at F1
  cases h : s.findIdx? (· == 46) with
  | none =>
    rw [h] at F1
    simp only [Option.isSome_none] at F1 ⊢
    refine go ?_
    refine ⟨?_, by simp⟩ <;> intros
    exact retn3 ⟨rfl, rfl⟩
  | some i =>
    rw [h] at F1
    simp only [Option.isSome_some] at F1 ⊢
    have F2 := Number_spec (s.take i)
    generalize numM (s.take i) = nm at *
    by_cases h1 : nm.2 = true
    · by_cases h2 : 1 ≤ nm.1
      · rw [h1] at F2 ⊢
        rw [decide_eq_true h2]
        refine go ?_
        (repeat' (first | exact trivial | apply And.intro | intro _))
        all_goals first
          | (exfalso; omega)
          | exact retn3 ⟨rfl, rfl⟩
      · rw [h1] at F2 ⊢
        rw [decide_eq_false h2]
        refine go ?_
        (repeat' (first | exact trivial | apply And.intro | intro _))
        all_goals first
          | (exfalso; omega)
          | exact retn3 ⟨rfl, rfl⟩
    · have h2 : nm.2 = false := by simpa using h1
      rw [h2] at F2 ⊢
      refine go ?_
      (repeat' (first | exact trivial | apply And.intro | intro _))
      all_goals first
        | (exfalso; omega)
        | exact retn3 ⟨rfl, rfl⟩
end Go.Proofs.YtckkipangiapbaaGreat
