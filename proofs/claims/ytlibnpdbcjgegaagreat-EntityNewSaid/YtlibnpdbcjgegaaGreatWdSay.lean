/-
  The document: what is said, and to whom.
-/
import Derived.Test.YtlibnpdbcjgegaaGreatWdLeaf
namespace Go.Proofs.YtlibnpdbcjgegaaGreat
open Go.SL
set_option linter.unusedVariables false
set_option linter.unusedSimpArgs false
set_option maxHeartbeats 8000000
set_option maxRecDepth 20000
theorem _root_.Go.SL.Trip.exo {P : Program} {f : FuncId} {args : List Value} {β : Type} {φ : β → Prop} {Ps : β → List HProp} {Pre : List HProp} {q : Value → List HProp → Prop} (h : ∀ x, φ x → Trip P f args (Ps x ++ Pre) q) : Trip P f args (exL φ Ps :: Pre) q := by
  constructor; intro o w Rs hw
  obtain ⟨x, hx⟩ := Sat.exo hw
  exact (h x.1 x.2).run o w Rs (by rw [List.append_assoc]; exact hx)
theorem say_spec (t d e : Nat) (S : List Sy) (u : Int) (to text : Tx) (hS : S.length ≤ 1000000) : Trip Tryz.prog 154 [.pointer (some ⟨t, 0, none⟩), str to, str text] [ts t d e S u] (fun v Ps => v = .tuple #[] ∧ Ps = [ts t d e (S ++ [(to, text)]) u]) := by
  refine Trip.exo fun p _ => ?_
  refine Trip.of (m := 18) Tryz.func154 rfl rfl rfl ?_
  intro o Rs
  simp only [List.cons_append, List.nil_append, enumFrom]
  refine go ?_
  refine ⟨?_, by simp⟩ <;> intros
  rename_i b A' c'
  refine efold (ts t d e (S ++ [(to, text)]) u) (A', c') trivial ?_
  exact ret0 ⟨rfl, rfl⟩
theorem others_spec (t d e : Nat) (m : Lay) (w : Wld) (S : List Sy) (u : Int) (room : Int) (but text : Tx) (hS : S.length ≤ 500000) (hw : w.chars.length ≤ 1000) (lm : Laid m w) :
    Trip Tryz.prog 156 [.pointer (some ⟨t, 0, none⟩), .int .i64 room, str but, str text] [ts t d e S u, wl d m w] (fun v Ps => v = .tuple #[] ∧ Ps = [ts t d e (S ++ othersL w room but text) u, wl d m w]) := by
  refine Trip.of (m := 55) Tryz.func156 rfl rfl rfl ?_
  intro o Rs
  simp only [List.cons_append, List.nil_append, enumFrom]
  haveI : Plan 5 [42, 45, 49, 52] [0, 1, 2, 3, 4, 5, 6, 7, 8, 9, 10, 11, 12, 13, 14, 15, 16] := ⟨⟩
  have zc : w.chars.length = (w.chars.zip m.dn).length := by rw [List.length_zip, lm.1, Nat.min_self]
  have F1 := Who_spec d m w room (by omega) lm (wl d m w)
  refine go ?_
  refine ⟨?_, by simp⟩ <;> intros
  rename_i A c
  clear F1
  have hlw : (ints (whoL w room)).length ≤ 1000 := by rw [ints_len]; exact Nat.le_trans (pos_len _ _) hw
  unfold othersL
  refine loop (fun k => k ≤ (ints (whoL w room)).length) (fun k => [(0, .pointer (some ⟨t, 0, none⟩)), (2, str but), (3, str text), (8, .slice A (ints (whoL w room)).length c), (9, .int .i64 (k : Int))]) (fun k => ts t d e (S ++ oth w but text ((whoL w room).take k)) u :: wl d m w :: sl E64 3 A c (ints (whoL w room)) :: Rs) (fun k => (ints (whoL w room)).length - k) 0 (Nat.zero_le _) (fun k hk => ?_) (by (repeat (first | exact trivial | refine And.intro rfl ?_ | fail))) (by rw [List.take_zero, show oth w but text [] = [] from rfl, List.append_nil]; (focus ((repeat (first | exact Ent.done | with_reducible exact Ent.same | (apply Ent.take; (first | (focus (with_reducible iterate 40 first | done | exact .here | apply Find.there); done) | (focus (iterate 40 first | done | exact .here | apply Find.there); done))) | (apply Ent.emp (sl_emp _ _)) | apply Ent.drop)); first | done | fail)))
  by_cases hk2 : k < (ints (whoL w room)).length
  · obtain ⟨i, hi⟩ : ∃ i, (whoL w room)[k]? = some i := ⟨_, List.getElem?_eq_getElem (by rw [ints_len] at hk2; exact hk2)⟩
    have hi2 := ints_get hi
    obtain ⟨x, hx, _⟩ := who_mem hi
    obtain ⟨⟨A0, c0⟩, hz, _⟩ := zip_get hx lm.1
    have hst := oth_step (but := but) (text := text) hi hx
    have hol : (oth w but text ((whoL w room).take k)).length ≤ 1000 := Nat.le_trans (oth_len ..) (by rw [List.length_take]; rw [ints_len] at hlw; omega)
    have hil : i < w.chars.length := (List.getElem?_eq_some_iff.1 hx).1
    have F1 := say_spec t d e (S ++ oth w but text ((whoL w room).take k)) u x.name text (by rw [List.length_append]; omega)
    refine go ?_
    refine ⟨fun h0 h3 => ?_, fun h0 h3 => ?_, by simp⟩
    · rw [if_neg h3] at hst
      rw [List.append_assoc, ← hst]
      exact rnd (k + 1) hk2 (by omega)
    · rw [if_pos h3, List.append_nil] at hst
      rw [← hst]
      exact rnd (k + 1) hk2 (by omega)
  · rw [List.take_of_length_le (by rw [ints_len] at hk2; omega)]
    refine go ?_
    refine ⟨?_, by simp⟩ <;> intros
    exact ret0 ⟨rfl, rfl⟩
end Go.Proofs.YtlibnpdbcjgegaaGreat
