/-
  The program's worlds: a thing made.
-/
import Derived.Test.YtckkipangiapbaaGreatWdMoney
import Derived.Test.YtckkipangiapbaaGreatEnPure
namespace Go.Proofs.YtckkipangiapbaaGreat
open Go.SL
set_option linter.unusedVariables false
set_option linter.unusedSimpArgs false
set_option maxHeartbeats 8000000
set_option maxRecDepth 20000
theorem MakeP_spec (d : Nat) (m : Lay) (w : Wld) (hl : w.things.length ≤ 100000) (hn : w.next ≤ 4611686018427387904) (h0 : 0 ≤ w.next) (proto : Int) (th : Thg) : Trip Tryz.prog 10 [.pointer (some ⟨d, 0, none⟩), .int .i64 proto, .agg (thgC th).toArray] [wl d m w] (fun v Ps => ∃ m', v = .bool (canMake w) ∧ Ps = [wl d m' (makeIf w proto th.place th.room th.who)]) := by
  refine Trip.of (m := 45) Tryz.func10 rfl rfl rfl ?_
  intro o Rs
  simp only [List.cons_append, List.nil_append, enumFrom]
  haveI : Plan 3 [21, 25, 28, 30, 32] [0, 1, 2, 3, 4, 5, 6, 7, 8, 9, 10, 11, 12, 13, 14, 15, 16, 17, 18, 19, 20, 21] := ⟨⟩
  unfold canMake makeIf
  refine copenw (d := d) (m := m) (w := w) fun lm => ?_
  simp only [List.cons_append, List.nil_append]
  by_cases h2 : w.things.length < 200
  · rw [decide_eq_true h2, if_pos (by rw [canMake, decide_eq_true h2])]
    unfold makeW
    refine go ?_
    (repeat' (first | exact trivial | apply And.intro | intro _))
    all_goals (
      rename_i A' c'
      refine efoldw d { m with thA := A', thC := c' } { w with things := w.things ++ [⟨w.next, proto, th.place, th.room, th.who⟩], next := w.next + 1 } lm ?_
      exact ret1 ⟨_, rfl, rfl⟩)
  · rw [decide_eq_false h2, if_neg (by rw [canMake, decide_eq_false h2]; decide)]
    refine go ?_
    (repeat' (first | exact trivial | apply And.intro | intro _))
    all_goals (
      refine efoldw d m w lm ?_
      exact ret1 ⟨_, rfl, rfl⟩)
end Go.Proofs.YtckkipangiapbaaGreat
