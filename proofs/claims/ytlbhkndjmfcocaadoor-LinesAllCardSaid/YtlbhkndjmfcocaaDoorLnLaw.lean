/-
  The two laws of the lines.
-/
import Derived.Test.YtlbhkndjmfcocaaDoorLnBeg
namespace Go.Proofs.YtlbhkndjmfcocaaDoor
open Go.SL Go.RowKit
set_option linter.unusedVariables false
set_option linter.unusedSimpArgs false
set_option maxHeartbeats 4000000
theorem words_len (s : List UInt8) : (wordsM s).length ≤ s.length + 1 := wgo_len s []
theorem lgo_len : ∀ (r cur : List UInt8), (lgo r cur).length ≤ r.length + 1
  | [], cur => by simp only [lgo]; split <;> simp
  | c :: r, cur => by
    simp only [lgo]
    have h1 := lgo_len r []
    have h2 := lgo_len r (cur ++ [c])
    split
    · simp only [List.length_cons]; omega
    · simp only [List.length_cons]; omega
theorem lines_len (s : List UInt8) : (linesM s).length ≤ s.length + 1 := lgo_len s []
theorem same_yes (a : List (List UInt8)) (A B : Option Addr) (ca cb : Nat) (hl : a.length ≤ 140737488355328) :
    Trip Tryd.prog 9 [.slice A a.length ca, .slice B a.length cb] [sl Enc.str 9 A ca a, sl Enc.str 9 B cb a] (fun v Ps => v = .bool true ∧ Ps = [sl Enc.str 9 A ca a, sl Enc.str 9 B cb a]) := by
  have h := same_spec a a A B ca cb (sl Enc.str 9 A ca a) (sl Enc.str 9 B cb a) reads_sl reads_sl hl hl
  rw [beq_self_eq_true] at h
  exact h
theorem LinesAll_spec (s : List UInt8) (hl : s.length ≤ 9223372036854775807) : Trip Tryd.prog 3 [str s] [gl] (fun u Ps => u = .bool true ∧ Ps = [gl]) := by
  refine Trip.of (m := 62) Tryd.func3 rfl rfl rfl ?_
  intro o Rs
  simp only [List.cons_append, List.nil_append, enumFrom]
  have hc : ∃ t : List UInt8, s.take 300 = t ∧ t.length ≤ 300 := ⟨_, rfl, by simp; omega⟩
  obtain ⟨t, ht, htl⟩ := hc
  have F1 := begun_spec
  have F2 := Cut_spec s 300 (by omega)
  rw [ht] at F2
  have F3 := Number_spec t
  have F4 := RefNumber_spec t
  have F5 := Words_spec t (by omega)
  have F6 := RefWords_spec t (by omega)
  have hw := words_len t
  have hn := lines_len t
  refine go ?_
  refine ⟨?_, by simp⟩ <;> intros
  refine W.callr (by exact rfl) (by (focus ((repeat (first | exact Ent.done | with_reducible exact Ent.same | (apply Ent.take; (first | (focus (with_reducible iterate 40 first | done | exact .here | apply Find.there); done) | (focus (iterate 40 first | done | exact .here | apply Find.there); done))) | (apply Ent.emp (sl_emp _ _)) | apply Ent.drop)); first | done | fail))) rfl (by (focus ((repeat (first | exact Incl.nil | (apply Incl.cons; (focus (with_reducible iterate 40 first | done | exact .here | apply Find.there); done)))); first | done | fail))) ((same_yes _ _ _ _ _ (by omega))) ?_
  rintro _ _ ⟨rfl, rfl⟩
  simp only [List.cons_append, List.nil_append]
  clear F1 F2 F3 F4 F5 F6
  have F1 := Lines_spec t (by omega)
  have F2 := RefLines_spec t (by omega)
  refine go ?_
  refine ⟨?_, by simp⟩ <;> intros
  refine W.callr (by exact rfl) (by (focus ((repeat (first | exact Ent.done | with_reducible exact Ent.same | (apply Ent.take; (first | (focus (with_reducible iterate 40 first | done | exact .here | apply Find.there); done) | (focus (iterate 40 first | done | exact .here | apply Find.there); done))) | (apply Ent.emp (sl_emp _ _)) | apply Ent.drop)); first | done | fail))) rfl (by (focus ((repeat (first | exact Incl.nil | (apply Incl.cons; (focus (with_reducible iterate 40 first | done | exact .here | apply Find.there); done)))); first | done | fail))) ((same_yes _ _ _ _ _ (by omega))) ?_
  rintro _ _ ⟨rfl, rfl⟩
  simp only [List.cons_append, List.nil_append]
  clear F1 F2
  have F1 := Lower_spec t (by omega)
  have F2 := RefLower_spec t (by omega)
  have F3 := Word_spec t (by omega)
  have F4 := RefWord_spec t (by omega)
  refine go ?_
  refine ⟨?_, by simp⟩ <;> intros
  simp
theorem LinesNumber_spec (n : Int) (h0 : -9223372036854775808 ≤ n) (h1 : n ≤ 9223372036854775807) : Trip Tryd.prog 4 [.int .i64 n] [gl] (fun u Ps => u = .bool true ∧ Ps = [gl]) := by
  refine Trip.of (m := 45) Tryd.func4 rfl rfl rfl ?_
  intro o Rs
  simp only [List.cons_append, List.nil_append, enumFrom]
  have F1 := begun_spec
  have F2 := Print_spec n h0 h1
  have F3 := Number_spec (Lib.itoa n)
  have F4 := RefPrint_spec n h0 h1
  obtain ⟨h2, h3⟩ := num_itoa n
  obtain ⟨v, b, hv⟩ : ∃ v b, numM (Lib.itoa n) = (v, b) := ⟨_, _, rfl⟩
  rw [hv] at F3 h2 h3
  simp only at h2 h3
  rcases (by omega : n < 0 ∨ 1099511627776 < n ∨ (0 ≤ n ∧ n ≤ 1099511627776)) with hs | hs | ⟨hs, ht⟩
  · rw [decide_eq_false (show ¬ 0 ≤ n by omega), Bool.false_and] at h2
    subst h2
    refine go ?_
    simp
  · rw [decide_eq_false (show ¬ n ≤ 1099511627776 by omega), Bool.and_false] at h2
    subst h2
    refine go ?_
    simp
    exact fun _ => hs
  · rw [decide_eq_true hs, decide_eq_true ht, Bool.and_true] at h2
    obtain rfl := h3 hs ht
    subst h2
    refine go ?_
    simp
    exact fun _ => ht
end Go.Proofs.YtlbhkndjmfcocaaDoor
