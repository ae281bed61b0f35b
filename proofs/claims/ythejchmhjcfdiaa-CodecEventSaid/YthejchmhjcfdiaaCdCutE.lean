/-
  Events cut to what a statement speaks of.
-/
import Derived.Test.YthejchmhjcfdiaaCdEqEv
import Derived.Test.YthejchmhjcfdiaaSLGoB
namespace Go.Proofs.Ythejchmhjcfdiaa
open Go.SL
set_option linter.unusedVariables false
set_option linter.unusedSimpArgs false
set_option maxHeartbeats 8000000
section
variable {P : Program} {n : Nat} {o : Outer} {sr : List Tmp} {ops : Array Oper} {Q : Post} {St : List HProp} {rest : List Oper} {xs : Env} {hs : List HProp}
variable {d : Option Tmp} {ty : TypeId} {pos : String} {af : Array Edge}
/-- s[:b], its header alone. -/
theorem _root_.Go.SL.W.slh {t e sz by_ m c : Nat} {x hi : Operand} {A : Option Addr} {kd : IntKind} {b : Int} [ht : SliceTy P t e sz by_] (hx : ev xs x = some (.slice A m c)) (hh : ev xs hi = some (.int kd b)) (h0 : 0 ≤ b) (h1 : b ≤ c) (hd : fits n d = true)
    (k : W P n o sr ops Q St rest (put d (.slice A b.toNat c) xs) hs) : W P n o sr ops Q St (⟨d, .slice t x none (some hi) none, ty, pos, af, none⟩ :: rest) xs hs := by
  refine W.val rfl (by simp only [kind]; first | (intro h; cases h; done) | (repeat' split) <;> (intro h; cases h)) hd (v := .slice A b.toNat c) (fun ac w ha => ?_) k
  show ((Instr.sliceAt t (ac.eval x) none (some (ac.eval hi)) none) >>= fun v => pure (Next.value v)).run P w = _
  rw [ha.ev hx, ha.ev hh, Sem.run_bind, run_sliceAt_to h0 h1]; rfl
end
theorem Cut6_spec (s : Tx) (n : Nat) (hn : n ≤ 1000000) : Trip Try.prog 19 [str s, .int .i64 (n : Int)] [] (fun v Ps => v = str (s.take n) ∧ Ps = []) := by
  refine Trip.of (m := 13) Try.func19 rfl rfl rfl ?_
  intro o Rs
  simp only [List.cons_append, List.nil_append, enumFrom]
  by_cases h : n < s.length
  · refine goB ?_
    simp
  · rw [List.take_of_length_le (by omega)]
    refine goB ?_
    simp
theorem CutEvent_spec (k : Int) (nm tx : Tx) (D : Option Addr) (dc : List Int) (m : Nat) (hd : dc.length ≤ m) :
    Trip Try.prog 12 [evV k nm tx D dc.length m] [] (fun v Ps => v = evV k (nm.take 40) (tx.take 130) D (dc.take 20).length m ∧ Ps = []) := by
  refine Trip.of (m := 20) Try.func12 rfl rfl rfl ?_
  intro o Rs
  simp only [List.cons_append, List.nil_append, enumFrom]
  haveI : Plan 1 [4, 7] [0, 1, 3, 4, 2, 6, 5, 7, 8, 9] := ⟨⟩
  have F1 := Cut6_spec nm 40 (by decide)
  have F2 := Cut6_spec tx 130 (by decide)
  by_cases h : 20 < dc.length
  · have hl : (dc.take 20).length = 20 := by rw [List.length_take]; omega
    rw [hl]
    refine goB ?_
    refine ⟨?_, by simp⟩ <;> intros
    refine W.slh (b := 20) (by exact rfl) (by exact rfl) (by decide) (by omega) rfl ?_
    refine goB ?_
    refine ⟨?_, by simp⟩ <;> intros
    rfl
  · rw [List.take_of_length_le (by omega : dc.length ≤ 20)]
    refine goB ?_
    simp
end Go.Proofs.Ythejchmhjcfdiaa
