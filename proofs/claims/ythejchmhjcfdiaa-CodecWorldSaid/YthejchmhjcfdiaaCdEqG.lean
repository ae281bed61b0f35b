/-
  The codec's comparison of any two worlds (not built yet: the walk of its long condition wants guards that part nothing).
-/
import Derived.Test.YthejchmhjcfdiaaCdEqW
namespace Go.Proofs.Ythejchmhjcfdiaa
open Go.SL
set_option linter.unusedVariables false
set_option linter.unusedSimpArgs false
set_option maxHeartbeats 8000000
set_option maxRecDepth 10000
theorem EqWorld_spec (da db : Nat) (ma mb : Lay) (a b : Wld) (sa : Short a) (sb : Short b) (P Q : HProp) [hp : RW P da ma a] [hq : RW Q db mb b] (la : Laid ma a) (lb : Laid mb b) :
    Trip Try.prog 10 [.pointer (some ⟨da, 0, none⟩), .pointer (some ⟨db, 0, none⟩)] [P, Q] (fun v Ps => v = .bool (decide (a = b)) ∧ Ps = [P, Q]) := by
  refine Trip.of (m := 111) Try.func10 rfl rfl rfl ?_
  intro o Rs
  simp only [List.cons_append, List.nil_append, enumFrom]
  haveI : Plan 3 [17, 21, 22, 27, 31, 32, 38, 42, 43, 49, 53] [0, 1, 2, 3, 4, 5, 6, 7, 8, 9, 10, 11, 12, 13, 14, 15, 16, 17, 18, 19, 20, 21, 22, 23, 24, 25, 26, 27, 28, 29, 30, 31, 32, 33, 34, 35, 36, 37, 38, 39, 40, 41, 42, 43, 44, 45, 46, 47, 48, 49, 50, 51, 52, 53, 54, 55, 56, 57, 58, 59, 60, 61, 62, 63, 64, 65, 66, 67, 68, 69, 70, 71, 72, 73, 74, 75, 76, 77, 78, 79, 80, 81, 82, 83, 84, 85, 86, 87, 88, 89, 90, 91, 92, 93, 94, 95, 96, 97] := ⟨⟩
  obtain ⟨a1, a2, a3, a4, a5, a6, a7, a8⟩ := sa
  obtain ⟨b1, b2, b3, b4, b5, b6, b7, b8⟩ := sb
  have F1 := EqualFChr_spec a.chars b.chars ma.dn mb.dn la.1 lb.1 ma.chA mb.chA ma.chC mb.chC P Q hp.ch hq.ch a1 b1 hp.dn hq.dn a7 b7
  have F2 := EqualThg_spec a.things b.things ma.thA mb.thA ma.thC mb.thC P Q hp.th hq.th a2 b2
  have F3 := EqualMob_spec a.mobs b.mobs ma.moA mb.moA ma.moC mb.moC P Q hp.mo hq.mo a3 b3
  have F4 := EqualFHse_spec a.houses b.houses ma.gs mb.gs la.2 lb.2 ma.hoA mb.hoA ma.hoC mb.hoC P Q hp.ho hq.ho a4 b4 hp.gs hq.gs a8 b8
  have F5 := EqualLot_spec a.lots b.lots ma.loA mb.loA ma.loC mb.loC P Q hp.lo hq.lo a5 b5
  have F6 := EqualTill_spec a.tills b.tills ma.tiA mb.tiA ma.tiC mb.tiC P Q hp.ti hq.ti a6 b6
  by_cases hab : a = b
  · subst hab
    simp only [decide_eq_true rfl] at F1 F2 F3 F4 F5 F6 ⊢
    refine go ?_
    simp
  · have hn := hab
    rw [wld_ext] at hn
    rw [decide_eq_false hab]
    refine go ?_
    refine ⟨?_, by simp⟩ <;> intros
    exact congrArg Value.bool (decide_eq_false fun h => hab ((wld_ext a b).2 ⟨by assumption, by assumption, by assumption, by assumption, by assumption, by assumption, by assumption, by assumption, h⟩))
end Go.Proofs.Ythejchmhjcfdiaa
