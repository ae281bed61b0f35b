/-
  The codec's comparison of worlds.
-/
import Derived.Test.YthejchmhjcfdiaaCdEqEv
import Derived.Test.YthejchmhjcfdiaaWoCopy
namespace Go.Proofs.Ythejchmhjcfdiaa
open Go.SL
set_option linter.unusedVariables false
set_option linter.unusedSimpArgs false
set_option maxHeartbeats 8000000
set_option maxRecDepth 10000
/-- Lists that came with a world are no longer than memory. -/
structure Short (w : Wld) : Prop where
  nc : w.chars.length ≤ 140737488355328
  nt : w.things.length ≤ 140737488355328
  nm : w.mobs.length ≤ 140737488355328
  nh : w.houses.length ≤ 140737488355328
  nl : w.lots.length ≤ 140737488355328
  ni : w.tills.length ≤ 140737488355328
  dn : ∀ c ∈ w.chars, c.done.length ≤ 140737488355328
  gs : ∀ c ∈ w.houses, c.guests.length ≤ 140737488355328
theorem wld_ext (a b : Wld) : a = b ↔ a.now = b.now ∧ a.next = b.next ∧ a.minted = b.minted ∧ a.chars = b.chars ∧ a.things = b.things ∧ a.mobs = b.mobs ∧ a.houses = b.houses ∧ a.lots = b.lots ∧ a.tills = b.tills := by
  cases a; cases b; simp
theorem chr_ext (a b : Chr) : a = b ↔ a.name = b.name ∧ a.hash = b.hash ∧ a.on = b.on ∧ a.room = b.room ∧ a.hp = b.hp ∧ a.xp = b.xp ∧ a.gold = b.gold ∧ a.bank = b.bank ∧ a.foe = b.foe ∧ a.done = b.done := by
  cases a; cases b; simp
theorem hse_ext (a b : Hse) : a = b ↔ a.room = b.room ∧ a.owner = b.owner ∧ a.guests = b.guests ∧ a.chest = b.chest := by
  cases a; cases b; simp
theorem eqChar_spec (x y : Chr) (g g' : PA) (P Q : HProp) (hP : Reads P E64 g.1 x.done) (hQ : Reads Q E64 g'.1 y.done) (h1 : x.done.length ≤ 140737488355328) (h2 : y.done.length ≤ 140737488355328) :
    Trip Try.prog 44 [.agg (chrC x g).toArray, .agg (chrC y g').toArray] [P, Q] (fun v Ps => v = .bool (decide (x = y)) ∧ Ps = [P, Q]) := by
  refine Trip.of (m := 73) Try.func44 rfl rfl rfl ?_
  intro o Rs
  simp only [List.cons_append, List.nil_append, enumFrom]
  have F1 := EqualInt_spec x.done y.done g.1 g'.1 g.2 g'.2 P Q hP hQ h1 h2
  by_cases hxy : x = y
  · subst hxy
    rw [decide_eq_true rfl]
    refine go ?_
    refine ⟨?_, by simp⟩ <;> intros
    simp
  · have hn := hxy
    rw [chr_ext] at hn
    rw [decide_eq_false hxy]
    refine go ?_
    refine ⟨?_, by simp⟩ <;> intros
    simp_all
theorem eqHouse_spec (x y : Hse) (g g' : PA) (P Q : HProp) (hP : Reads P Enc.str g.1 x.guests) (hQ : Reads Q Enc.str g'.1 y.guests) (h1 : x.guests.length ≤ 140737488355328) (h2 : y.guests.length ≤ 140737488355328) :
    Trip Try.prog 48 [.agg (hseC x g).toArray, .agg (hseC y g').toArray] [P, Q] (fun v Ps => v = .bool (decide (x = y)) ∧ Ps = [P, Q]) := by
  refine Trip.of (m := 31) Try.func48 rfl rfl rfl ?_
  intro o Rs
  simp only [List.cons_append, List.nil_append, enumFrom]
  have F1 := EqualStr_spec x.guests y.guests g.1 g'.1 g.2 g'.2 P Q hP hQ h1 h2
  by_cases hxy : x = y
  · subst hxy
    rw [decide_eq_true rfl]
    refine go ?_
    refine ⟨?_, by simp⟩ <;> intros
    simp
  · have hn := hxy
    rw [hse_ext] at hn
    rw [decide_eq_false hxy]
    refine go ?_
    refine ⟨?_, by simp⟩ <;> intros
    simp_all
theorem EqualFChr_spec (a b : List Chr) (ga gb : List PA) (la : ga.length = a.length) (lb : gb.length = b.length) (A B : Option Addr) (ca cb : Nat) (P Q : HProp) (hP : Reads P Ec A (a.zip ga)) (hQ : Reads Q Ec B (b.zip gb)) (hl : a.length ≤ 140737488355328) (hl2 : b.length ≤ 140737488355328)
    (hdP : ∀ p, p ∈ a.zip ga → Reads P E64 p.2.1 p.1.done) (hdQ : ∀ p, p ∈ b.zip gb → Reads Q E64 p.2.1 p.1.done) (hsa : ∀ c ∈ a, c.done.length ≤ 140737488355328) (hsb : ∀ c ∈ b, c.done.length ≤ 140737488355328) :
    Trip Try.prog 43 [.slice A a.length ca, .slice B b.length cb, .func (.func 44) #[] #[]] [P, Q] (fun v Ps => v = .bool (decide (a = b)) ∧ Ps = [P, Q]) := by
  refine Trip.of (m := 32) Try.func43 rfl rfl rfl ?_
  intro o Rs
  simp only [List.cons_append, List.nil_append, enumFrom]
  have za : a.length = (a.zip ga).length := by simp [la]
  have zb : b.length = (b.zip gb).length := by simp [lb]
  by_cases hab : a.length = b.length
  · refine go ?_
    refine ⟨?_, by simp⟩ <;> intros
    refine loop (fun k => k ≤ a.length ∧ a.take k = b.take k) (fun k => [(0, .slice A a.length ca), (1, .slice B b.length cb), (2, .func (.func 44) #[] #[]), (15, .slice A a.length ca), (16, .int .i64 (a.length : Int)), (17, .int .i64 (k : Int))]) (fun k => P :: Q :: Rs) (fun k => a.length - k) 0 ⟨Nat.zero_le _, rfl⟩ fun k ⟨h1, h2⟩ => ?_
    by_cases hk : k < a.length
    · obtain ⟨x, hx⟩ : ∃ x, a[k]? = some x := ⟨_, List.getElem?_eq_getElem hk⟩
      obtain ⟨y, hy⟩ : ∃ y, b[k]? = some y := ⟨_, List.getElem?_eq_getElem (by omega)⟩
      obtain ⟨g, hz, _⟩ := zip_get hx la
      obtain ⟨g', hz', _⟩ := zip_get hy lb
      have F1 := eqChar_spec x y g g' P Q (hdP _ (List.mem_of_getElem? hz)) (hdQ _ (List.mem_of_getElem? hz')) (hsa _ (List.mem_of_getElem? hx)) (hsb _ (List.mem_of_getElem? hy))
      by_cases hxy : x = y
      · have h4 : a.take (k + 1) = b.take (k + 1) := by rw [List.take_add_one, List.take_add_one, hx, hy, h2, hxy]
        rw [decide_eq_true hxy] at F1
        refine go ?_
        refine ⟨?_, by simp⟩ <;> intros
        exact rnd (k + 1) ⟨hk, h4⟩ (by omega)
      · have hne : a ≠ b := by rintro rfl; rw [hx] at hy; exact hxy (Option.some.inj hy)
        rw [decide_eq_false hne]
        rw [decide_eq_false hxy] at F1
        refine go ?_
        simp
    · rw [List.take_of_length_le (by omega), List.take_of_length_le (by omega)] at h2
      subst h2
      rw [decide_eq_true rfl]
      refine go ?_
      simp
  · have hne : a ≠ b := by rintro rfl; exact hab rfl
    rw [decide_eq_false hne]
    refine go ?_
    simp
theorem EqualFHse_spec (a b : List Hse) (ga gb : List PA) (la : ga.length = a.length) (lb : gb.length = b.length) (A B : Option Addr) (ca cb : Nat) (P Q : HProp) (hP : Reads P Eh A (a.zip ga)) (hQ : Reads Q Eh B (b.zip gb)) (hl : a.length ≤ 140737488355328) (hl2 : b.length ≤ 140737488355328)
    (hdP : ∀ p, p ∈ a.zip ga → Reads P Enc.str p.2.1 p.1.guests) (hdQ : ∀ p, p ∈ b.zip gb → Reads Q Enc.str p.2.1 p.1.guests) (hsa : ∀ c ∈ a, c.guests.length ≤ 140737488355328) (hsb : ∀ c ∈ b, c.guests.length ≤ 140737488355328) :
    Trip Try.prog 47 [.slice A a.length ca, .slice B b.length cb, .func (.func 48) #[] #[]] [P, Q] (fun v Ps => v = .bool (decide (a = b)) ∧ Ps = [P, Q]) := by
  refine Trip.of (m := 32) Try.func47 rfl rfl rfl ?_
  intro o Rs
  simp only [List.cons_append, List.nil_append, enumFrom]
  have za : a.length = (a.zip ga).length := by simp [la]
  have zb : b.length = (b.zip gb).length := by simp [lb]
  by_cases hab : a.length = b.length
  · refine go ?_
    refine ⟨?_, by simp⟩ <;> intros
    refine loop (fun k => k ≤ a.length ∧ a.take k = b.take k) (fun k => [(0, .slice A a.length ca), (1, .slice B b.length cb), (2, .func (.func 48) #[] #[]), (15, .slice A a.length ca), (16, .int .i64 (a.length : Int)), (17, .int .i64 (k : Int))]) (fun k => P :: Q :: Rs) (fun k => a.length - k) 0 ⟨Nat.zero_le _, rfl⟩ fun k ⟨h1, h2⟩ => ?_
    by_cases hk : k < a.length
    · obtain ⟨x, hx⟩ : ∃ x, a[k]? = some x := ⟨_, List.getElem?_eq_getElem hk⟩
      obtain ⟨y, hy⟩ : ∃ y, b[k]? = some y := ⟨_, List.getElem?_eq_getElem (by omega)⟩
      obtain ⟨g, hz, _⟩ := zip_get hx la
      obtain ⟨g', hz', _⟩ := zip_get hy lb
      have F1 := eqHouse_spec x y g g' P Q (hdP _ (List.mem_of_getElem? hz)) (hdQ _ (List.mem_of_getElem? hz')) (hsa _ (List.mem_of_getElem? hx)) (hsb _ (List.mem_of_getElem? hy))
      by_cases hxy : x = y
      · have h4 : a.take (k + 1) = b.take (k + 1) := by rw [List.take_add_one, List.take_add_one, hx, hy, h2, hxy]
        rw [decide_eq_true hxy] at F1
        refine go ?_
        refine ⟨?_, by simp⟩ <;> intros
        exact rnd (k + 1) ⟨hk, h4⟩ (by omega)
      · have hne : a ≠ b := by rintro rfl; rw [hx] at hy; exact hxy (Option.some.inj hy)
        rw [decide_eq_false hne]
        rw [decide_eq_false hxy] at F1
        refine go ?_
        simp
    · rw [List.take_of_length_le (by omega), List.take_of_length_le (by omega)] at h2
      subst h2
      rw [decide_eq_true rfl]
      refine go ?_
      simp
  · have hne : a ≠ b := by rintro rfl; exact hab rfl
    rw [decide_eq_false hne]
    refine go ?_
    simp
theorem EqWorld_same (da db : Nat) (ma mb : Lay) (a : Wld) (sa : Short a) (P Q : HProp) [hp : RW P da ma a] [hq : RW Q db mb a] (la : Laid ma a) (lb : Laid mb a) :
    Trip Try.prog 10 [.pointer (some ⟨da, 0, none⟩), .pointer (some ⟨db, 0, none⟩)] [P, Q] (fun v Ps => v = .bool true ∧ Ps = [P, Q]) := by
  refine Trip.of (m := 111) Try.func10 rfl rfl rfl ?_
  intro o Rs
  simp only [List.cons_append, List.nil_append, enumFrom]
  haveI : Plan 3 [17, 21, 22, 27, 31, 32, 38, 42, 43, 49, 53] [0, 1, 2, 3, 4, 5, 6, 7, 8, 9, 10, 11, 12, 13, 14, 15, 16, 17, 18, 19, 20, 21, 22, 23, 24, 25, 26, 27, 28, 29, 30, 31, 32, 33, 34, 35, 36, 37, 38, 39, 40, 41, 42, 43, 44, 45, 46, 47, 48, 49, 50, 51, 52, 53, 54, 55, 56, 57, 58, 59, 60, 61, 62, 63, 64, 65, 66, 67, 68, 69, 70, 71, 72, 73, 74, 75, 76, 77, 78, 79, 80, 81, 82, 83, 84, 85, 86, 87, 88, 89, 90, 91, 92, 93, 94, 95, 96, 97] := ⟨⟩
  obtain ⟨a1, a2, a3, a4, a5, a6, a7, a8⟩ := sa
  have F1 := EqualFChr_spec a.chars a.chars ma.dn mb.dn la.1 lb.1 ma.chA mb.chA ma.chC mb.chC P Q hp.ch hq.ch a1 a1 hp.dn hq.dn a7 a7
  have F2 := EqualThg_spec a.things a.things ma.thA mb.thA ma.thC mb.thC P Q hp.th hq.th a2 a2
  have F3 := EqualMob_spec a.mobs a.mobs ma.moA mb.moA ma.moC mb.moC P Q hp.mo hq.mo a3 a3
  have F4 := EqualFHse_spec a.houses a.houses ma.gs mb.gs la.2 lb.2 ma.hoA mb.hoA ma.hoC mb.hoC P Q hp.ho hq.ho a4 a4 hp.gs hq.gs a8 a8
  have F5 := EqualLot_spec a.lots a.lots ma.loA mb.loA ma.loC mb.loC P Q hp.lo hq.lo a5 a5
  have F6 := EqualTill_spec a.tills a.tills ma.tiA mb.tiA ma.tiC mb.tiC P Q hp.ti hq.ti a6 a6
  simp only [decide_eq_true rfl] at F1 F2 F3 F4 F5 F6
  refine go ?_
  simp
theorem EqNil_spec : Trip Try.prog 10 [.pointer none, .pointer none] [] (fun v Ps => v = .bool true ∧ Ps = []) := by
  refine Trip.of (m := 111) Try.func10 rfl rfl rfl ?_
  intro o Rs
  simp only [List.cons_append, List.nil_append, enumFrom]
  haveI : Plan 3 [17, 21, 22, 27, 31, 32, 38, 42, 43, 49, 53] [0, 1, 2, 3, 4, 5, 6, 7, 8, 9, 10, 11, 12, 13, 14, 15, 16, 17, 18, 19, 20, 21, 22, 23, 24, 25, 26, 27, 28, 29, 30, 31, 32, 33, 34, 35, 36, 37, 38, 39, 40, 41, 42, 43, 44, 45, 46, 47, 48, 49, 50, 51, 52, 53, 54, 55, 56, 57, 58, 59, 60, 61, 62, 63, 64, 65, 66, 67, 68, 69, 70, 71, 72, 73, 74, 75, 76, 77, 78, 79, 80, 81, 82, 83, 84, 85, 86, 87, 88, 89, 90, 91, 92, 93, 94, 95, 96, 97] := ⟨⟩
  refine go ?_
  simp
theorem EqHalf_spec (d : Nat) : Trip Try.prog 10 [.pointer (some ⟨d, 0, none⟩), .pointer none] [] (fun v Ps => v = .bool false ∧ Ps = []) := by
  refine Trip.of (m := 111) Try.func10 rfl rfl rfl ?_
  intro o Rs
  simp only [List.cons_append, List.nil_append, enumFrom]
  haveI : Plan 3 [17, 21, 22, 27, 31, 32, 38, 42, 43, 49, 53] [0, 1, 2, 3, 4, 5, 6, 7, 8, 9, 10, 11, 12, 13, 14, 15, 16, 17, 18, 19, 20, 21, 22, 23, 24, 25, 26, 27, 28, 29, 30, 31, 32, 33, 34, 35, 36, 37, 38, 39, 40, 41, 42, 43, 44, 45, 46, 47, 48, 49, 50, 51, 52, 53, 54, 55, 56, 57, 58, 59, 60, 61, 62, 63, 64, 65, 66, 67, 68, 69, 70, 71, 72, 73, 74, 75, 76, 77, 78, 79, 80, 81, 82, 83, 84, 85, 86, 87, 88, 89, 90, 91, 92, 93, 94, 95, 96, 97] := ⟨⟩
  refine go ?_
  simp
theorem WorldNil_spec : Trip Try.prog 7 [.pointer none] [] (fun v Ps => v = .slice none 0 0 ∧ Ps = []) := by
  refine Trip.of (m := 202) Try.func7 rfl rfl rfl ?_
  intro o Rs
  simp only [List.cons_append, List.nil_append, enumFrom]
  haveI : Plan 3 [21, 25, 29, 35] [0, 1, 2, 3, 4, 5, 6, 7, 8, 9, 10, 11, 14, 15, 16, 17, 18, 19, 12, 13, 20, 21] := ⟨⟩
  haveI : Plan 13 [71, 73, 75, 77, 81] [0, 1, 2, 3, 4, 5, 6, 7, 8, 11, 12, 9, 10, 13, 14] := ⟨⟩
  haveI : Plan 31 [153, 155, 159] [0, 1, 2, 3, 4, 7, 8, 5, 6, 9, 10] := ⟨⟩
  haveI : Plans 32 [163, 165, 169, 172] [5, 6, 9, 12, 13] [[0, 1, 2, 3, 4, 7, 8, 10, 11, 5, 6, 9, 12, 13, 14], [0, 1, 2, 3, 4, 7, 8, 10, 11, 5, 6, 12, 9, 13, 14], [0, 1, 2, 3, 4, 7, 8, 10, 11, 5, 12, 6, 9, 13, 14], [0, 1, 2, 3, 4, 7, 8, 10, 11, 12, 5, 6, 9, 13, 14]] := ⟨⟩
  refine go ?_
  simp
end Go.Proofs.Ythejchmhjcfdiaa
