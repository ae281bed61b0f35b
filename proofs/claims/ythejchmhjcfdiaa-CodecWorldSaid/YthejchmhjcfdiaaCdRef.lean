/-
  The document's comparison of worlds.
-/
import Derived.Test.YthejchmhjcfdiaaCdEqW
namespace Go.Proofs.Ythejchmhjcfdiaa
open Go.SL
set_option linter.unusedVariables false
set_option linter.unusedSimpArgs false
set_option maxHeartbeats 8000000
set_option maxRecDepth 10000
theorem thg_ext (a b : Thg) : a = b ↔ a.id = b.id ∧ a.proto = b.proto ∧ a.place = b.place ∧ a.room = b.room ∧ a.who = b.who := by
  cases a; cases b; simp
theorem mob_ext (a b : Mob) : a = b ↔ a.id = b.id ∧ a.proto = b.proto ∧ a.room = b.room ∧ a.hp = b.hp := by
  cases a; cases b; simp
theorem lot_ext (a b : Lot) : a = b ↔ a.id = b.id ∧ a.thing = b.thing ∧ a.seller = b.seller ∧ a.min = b.min ∧ a.bid = b.bid ∧ a.bidder = b.bidder ∧ a.ends = b.ends := by
  cases a; cases b; simp
theorem till_ext (a b : Till) : a = b ↔ a.room = b.room ∧ a.gold = b.gold := by
  cases a; cases b; simp
theorem reftexts_spec (a b : List Tx) (A B : Option Addr) (ca cb : Nat) (P Q : HProp) (hP : Reads P Enc.str A a) (hQ : Reads Q Enc.str B b) (hl : a.length ≤ 140737488355328) (hl2 : b.length ≤ 140737488355328) :
    Trip Try.prog 42 [.slice A a.length ca, .slice B b.length cb] [P, Q] (fun v Ps => v = .bool (a == b) ∧ Ps = [P, Q]) := by
  refine Trip.of (m := 26) Try.func42 rfl rfl rfl ?_
  intro o Rs
  simp only [List.cons_append, List.nil_append, enumFrom]
  by_cases hab : a.length = b.length
  · refine go ?_
    refine ⟨?_, by simp⟩ <;> intros
    refine loop (fun k => k ≤ a.length ∧ a.take k = b.take k) (fun k => [(0, .slice A a.length ca), (1, .slice B b.length cb), (5, .int .i64 (k : Int))]) (fun k => P :: Q :: Rs) (fun k => a.length - k) 0 ⟨Nat.zero_le _, rfl⟩ fun k ⟨h1, h2⟩ => ?_
    by_cases hk : k < a.length
    · obtain ⟨x, hx⟩ : ∃ x, a[k]? = some x := ⟨_, List.getElem?_eq_getElem hk⟩
      obtain ⟨y, hy⟩ : ∃ y, b[k]? = some y := ⟨_, List.getElem?_eq_getElem (by omega)⟩
      refine go ?_
      refine ⟨fun h3 h4 => ?_, fun h3 h4 => ?_, by simp⟩
      · have hne : a ≠ b := by rintro rfl; rw [hx] at hy; exact h4 (Option.some.inj hy)
        rw [beq_eq_false_iff_ne.2 hne]
      · exact rnd (k + 1) ⟨hk, by rw [List.take_add_one, List.take_add_one, hx, hy, h2, h4]⟩ (by omega)
    · rw [List.take_of_length_le (by omega), List.take_of_length_le (by omega)] at h2
      subst h2
      refine go ?_
      refine ⟨?_, by simp⟩ <;> intros
      rw [beq_self_eq_true]
  · have hne : a ≠ b := by rintro rfl; exact hab rfl
    refine go ?_
    refine ⟨?_, by simp⟩ <;> intros
    rw [beq_eq_false_iff_ne.2 hne]
theorem RefEq_spec (da db : Nat) (ma mb : Lay) (a b : Wld) (sa : Short a) (sb : Short b) (P Q : HProp) [hp : RW P da ma a] [hq : RW Q db mb b] (la : Laid ma a) (lb : Laid mb b) :
    Trip Try.prog 9 [.pointer (some ⟨da, 0, none⟩), .pointer (some ⟨db, 0, none⟩)] [P, Q] (fun v Ps => v = .bool (decide (a = b)) ∧ Ps = [P, Q]) := by
  refine Trip.of (m := 504) Try.func9 rfl rfl rfl ?_
  intro o Rs
  simp only [List.cons_append, List.nil_append, enumFrom]
  haveI : Plans 8 [154, 157, 161, 164] [14, 15, 16, 17] [[0, 1, 2, 3, 4, 5, 6, 7, 8, 9, 10, 11, 12, 13, 14, 15, 16, 17], [0, 1, 2, 3, 4, 5, 6, 7, 8, 9, 10, 11, 12, 13, 15, 14, 16, 17]] := ⟨⟩
  haveI : Plans 14 [246, 249, 253, 256] [14, 15, 16, 17] [[0, 1, 2, 3, 4, 5, 6, 7, 8, 9, 10, 11, 12, 13, 14, 15, 16, 17], [0, 1, 2, 3, 4, 5, 6, 7, 8, 9, 10, 11, 12, 13, 15, 14, 16, 17]] := ⟨⟩
  haveI : Plans 20 [302, 305, 309, 312] [14, 15, 16, 17] [[0, 1, 2, 3, 4, 5, 6, 7, 8, 9, 10, 11, 12, 13, 14, 15, 16, 17], [0, 1, 2, 3, 4, 5, 6, 7, 8, 9, 10, 11, 12, 13, 15, 14, 16, 17]] := ⟨⟩
  haveI : Plans 26 [351, 354, 358, 361] [14, 15, 16, 17] [[0, 1, 2, 3, 4, 5, 6, 7, 8, 9, 10, 11, 12, 13, 14, 15, 16, 17], [0, 1, 2, 3, 4, 5, 6, 7, 8, 9, 10, 11, 12, 13, 15, 14, 16, 17]] := ⟨⟩
  haveI : Plans 32 [401, 404, 408, 411] [14, 15, 16, 17] [[0, 1, 2, 3, 4, 5, 6, 7, 8, 9, 10, 11, 12, 13, 14, 15, 16, 17], [0, 1, 2, 3, 4, 5, 6, 7, 8, 9, 10, 11, 12, 13, 15, 14, 16, 17]] := ⟨⟩
  obtain ⟨a1, a2, a3, a4, a5, a6, a7, a8⟩ := sa
  obtain ⟨b1, b2, b3, b4, b5, b6, b7, b8⟩ := sb
  have zca : a.chars.length = (a.chars.zip ma.dn).length := by simp [la.1]
  have zcb : b.chars.length = (b.chars.zip mb.dn).length := by simp [lb.1]
  have zha : a.houses.length = (a.houses.zip ma.gs).length := by simp [la.2]
  have zhb : b.houses.length = (b.houses.zip mb.gs).length := by simp [lb.2]
  by_cases hpre : a.now = b.now ∧ a.next = b.next ∧ a.minted = b.minted ∧ a.chars.length = b.chars.length ∧ a.things.length = b.things.length ∧ a.mobs.length = b.mobs.length ∧ a.houses.length = b.houses.length ∧ a.lots.length = b.lots.length ∧ a.tills.length = b.tills.length
  case neg =>
    have hne : a ≠ b := by rintro rfl; simp at hpre
    rw [decide_eq_false hne]
    refine go ?_
    simp
  obtain ⟨p1, p2, p3, p4, p5, p6, p7, p8, p9⟩ := hpre
  refine go ?_
  refine ⟨?_, by simp⟩ <;> intros
  refine loop (fun k => k ≤ a.chars.length ∧ a.chars.take k = b.chars.take k) (fun k => [(0, .pointer (some ⟨da, 0, none⟩)), (1, .pointer (some ⟨db, 0, none⟩)), (5, .int .i64 (k : Int))]) (fun k => P :: Q :: Rs) (fun k => a.chars.length - k) 0 ⟨Nat.zero_le _, rfl⟩ fun k ⟨h1, h2⟩ => ?_
  by_cases hk : k < a.chars.length
  case pos =>
    obtain ⟨x, hx⟩ : ∃ x, a.chars[k]? = some x := ⟨_, List.getElem?_eq_getElem hk⟩
    obtain ⟨y, hy⟩ : ∃ y, b.chars[k]? = some y := ⟨_, List.getElem?_eq_getElem (by omega)⟩
    have h4 : x = y → a.chars.take (k + 1) = b.chars.take (k + 1) := fun hxy => by rw [List.take_add_one, List.take_add_one, hx, hy, h2, hxy]
    obtain ⟨g, hz, _⟩ := zip_get hx la.1
    obtain ⟨g', hz', _⟩ := zip_get hy lb.1
    have F1 := refints_spec x.done y.done g.1 g'.1 g.2 g'.2 P Q (hp.dn _ (List.mem_of_getElem? hz)) (hq.dn _ (List.mem_of_getElem? hz')) (a7 _ (List.mem_of_getElem? hx)) (b7 _ (List.mem_of_getElem? hy))
    refine go ?_
    (repeat' (first | exact trivial | apply And.intro | intro _))
    all_goals first | (exact rnd (k + 1) ⟨hk, h4 ((chr_ext x y).2 ⟨by assumption, by assumption, by assumption, by assumption, by assumption, by assumption, by assumption, by assumption, by assumption, by assumption⟩)⟩ (by omega)) | (rw [decide_eq_false (by rintro rfl; rw [hx] at hy; cases hy; contradiction)])
  rw [List.take_of_length_le (by omega), List.take_of_length_le (by omega)] at h2
  have e1 := h2
  clear h1 h2
  refine go ?_
  refine ⟨?_, by simp⟩ <;> intros
  clear hk
  refine loop (fun k => k ≤ a.things.length ∧ a.things.take k = b.things.take k) (fun k => [(0, .pointer (some ⟨da, 0, none⟩)), (1, .pointer (some ⟨db, 0, none⟩)), (8, .int .i64 (k : Int))]) (fun k => P :: Q :: Rs) (fun k => a.things.length - k) 0 ⟨Nat.zero_le _, rfl⟩ fun k ⟨h1, h2⟩ => ?_
  by_cases hk : k < a.things.length
  case pos =>
    obtain ⟨x, hx⟩ : ∃ x, a.things[k]? = some x := ⟨_, List.getElem?_eq_getElem hk⟩
    obtain ⟨y, hy⟩ : ∃ y, b.things[k]? = some y := ⟨_, List.getElem?_eq_getElem (by omega)⟩
    have h4 : x = y → a.things.take (k + 1) = b.things.take (k + 1) := fun hxy => by rw [List.take_add_one, List.take_add_one, hx, hy, h2, hxy]
    refine go ?_
    (repeat' (first | exact trivial | apply And.intro | intro _))
    all_goals first | (exact rnd (k + 1) ⟨hk, h4 ((thg_ext x y).2 ⟨by assumption, by assumption, by assumption, by assumption, by assumption⟩)⟩ (by omega)) | (rw [decide_eq_false (by rintro rfl; rw [hx] at hy; cases hy; contradiction)])
  rw [List.take_of_length_le (by omega), List.take_of_length_le (by omega)] at h2
  have e2 := h2
  clear h1 h2
  refine go ?_
  refine ⟨?_, by simp⟩ <;> intros
  clear hk
  refine loop (fun k => k ≤ a.mobs.length ∧ a.mobs.take k = b.mobs.take k) (fun k => [(0, .pointer (some ⟨da, 0, none⟩)), (1, .pointer (some ⟨db, 0, none⟩)), (11, .int .i64 (k : Int))]) (fun k => P :: Q :: Rs) (fun k => a.mobs.length - k) 0 ⟨Nat.zero_le _, rfl⟩ fun k ⟨h1, h2⟩ => ?_
  by_cases hk : k < a.mobs.length
  case pos =>
    obtain ⟨x, hx⟩ : ∃ x, a.mobs[k]? = some x := ⟨_, List.getElem?_eq_getElem hk⟩
    obtain ⟨y, hy⟩ : ∃ y, b.mobs[k]? = some y := ⟨_, List.getElem?_eq_getElem (by omega)⟩
    have h4 : x = y → a.mobs.take (k + 1) = b.mobs.take (k + 1) := fun hxy => by rw [List.take_add_one, List.take_add_one, hx, hy, h2, hxy]
    refine go ?_
    (repeat' (first | exact trivial | apply And.intro | intro _))
    all_goals first | (exact rnd (k + 1) ⟨hk, h4 ((mob_ext x y).2 ⟨by assumption, by assumption, by assumption, by assumption⟩)⟩ (by omega)) | (rw [decide_eq_false (by rintro rfl; rw [hx] at hy; cases hy; contradiction)])
  rw [List.take_of_length_le (by omega), List.take_of_length_le (by omega)] at h2
  have e3 := h2
  clear h1 h2
  refine go ?_
  refine ⟨?_, by simp⟩ <;> intros
  clear hk
  refine loop (fun k => k ≤ a.houses.length ∧ a.houses.take k = b.houses.take k) (fun k => [(0, .pointer (some ⟨da, 0, none⟩)), (1, .pointer (some ⟨db, 0, none⟩)), (14, .int .i64 (k : Int))]) (fun k => P :: Q :: Rs) (fun k => a.houses.length - k) 0 ⟨Nat.zero_le _, rfl⟩ fun k ⟨h1, h2⟩ => ?_
  by_cases hk : k < a.houses.length
  case pos =>
    obtain ⟨x, hx⟩ : ∃ x, a.houses[k]? = some x := ⟨_, List.getElem?_eq_getElem hk⟩
    obtain ⟨y, hy⟩ : ∃ y, b.houses[k]? = some y := ⟨_, List.getElem?_eq_getElem (by omega)⟩
    have h4 : x = y → a.houses.take (k + 1) = b.houses.take (k + 1) := fun hxy => by rw [List.take_add_one, List.take_add_one, hx, hy, h2, hxy]
    obtain ⟨g, hz, _⟩ := zip_get hx la.2
    obtain ⟨g', hz', _⟩ := zip_get hy lb.2
    have F1 := reftexts_spec x.guests y.guests g.1 g'.1 g.2 g'.2 P Q (hp.gs _ (List.mem_of_getElem? hz)) (hq.gs _ (List.mem_of_getElem? hz')) (a8 _ (List.mem_of_getElem? hx)) (b8 _ (List.mem_of_getElem? hy))
    refine go ?_
    (repeat' (first | exact trivial | apply And.intro | intro _))
    all_goals first | (exact rnd (k + 1) ⟨hk, h4 ((hse_ext x y).2 ⟨by assumption, by assumption, by assumption, by assumption⟩)⟩ (by omega)) | (rw [decide_eq_false (by rintro rfl; rw [hx] at hy; cases hy; contradiction)])
  rw [List.take_of_length_le (by omega), List.take_of_length_le (by omega)] at h2
  have e4 := h2
  clear h1 h2
  refine go ?_
  refine ⟨?_, by simp⟩ <;> intros
  clear hk
  refine loop (fun k => k ≤ a.lots.length ∧ a.lots.take k = b.lots.take k) (fun k => [(0, .pointer (some ⟨da, 0, none⟩)), (1, .pointer (some ⟨db, 0, none⟩)), (17, .int .i64 (k : Int))]) (fun k => P :: Q :: Rs) (fun k => a.lots.length - k) 0 ⟨Nat.zero_le _, rfl⟩ fun k ⟨h1, h2⟩ => ?_
  by_cases hk : k < a.lots.length
  case pos =>
    obtain ⟨x, hx⟩ : ∃ x, a.lots[k]? = some x := ⟨_, List.getElem?_eq_getElem hk⟩
    obtain ⟨y, hy⟩ : ∃ y, b.lots[k]? = some y := ⟨_, List.getElem?_eq_getElem (by omega)⟩
    have h4 : x = y → a.lots.take (k + 1) = b.lots.take (k + 1) := fun hxy => by rw [List.take_add_one, List.take_add_one, hx, hy, h2, hxy]
    refine go ?_
    (repeat' (first | exact trivial | apply And.intro | intro _))
    all_goals first | (exact rnd (k + 1) ⟨hk, h4 ((lot_ext x y).2 ⟨by assumption, by assumption, by assumption, by assumption, by assumption, by assumption, by assumption⟩)⟩ (by omega)) | (rw [decide_eq_false (by rintro rfl; rw [hx] at hy; cases hy; contradiction)])
  rw [List.take_of_length_le (by omega), List.take_of_length_le (by omega)] at h2
  have e5 := h2
  clear h1 h2
  refine go ?_
  refine ⟨?_, by simp⟩ <;> intros
  clear hk
  refine loop (fun k => k ≤ a.tills.length ∧ a.tills.take k = b.tills.take k) (fun k => [(0, .pointer (some ⟨da, 0, none⟩)), (1, .pointer (some ⟨db, 0, none⟩)), (20, .int .i64 (k : Int))]) (fun k => P :: Q :: Rs) (fun k => a.tills.length - k) 0 ⟨Nat.zero_le _, rfl⟩ fun k ⟨h1, h2⟩ => ?_
  by_cases hk : k < a.tills.length
  case pos =>
    obtain ⟨x, hx⟩ : ∃ x, a.tills[k]? = some x := ⟨_, List.getElem?_eq_getElem hk⟩
    obtain ⟨y, hy⟩ : ∃ y, b.tills[k]? = some y := ⟨_, List.getElem?_eq_getElem (by omega)⟩
    have h4 : x = y → a.tills.take (k + 1) = b.tills.take (k + 1) := fun hxy => by rw [List.take_add_one, List.take_add_one, hx, hy, h2, hxy]
    refine go ?_
    (repeat' (first | exact trivial | apply And.intro | intro _))
    all_goals first | (exact rnd (k + 1) ⟨hk, h4 ((till_ext x y).2 ⟨by assumption, by assumption⟩)⟩ (by omega)) | (rw [decide_eq_false (by rintro rfl; rw [hx] at hy; cases hy; contradiction)])
  rw [List.take_of_length_le (by omega), List.take_of_length_le (by omega)] at h2
  have e6 := h2
  clear h1 h2
  refine go ?_
  refine ⟨?_, by simp⟩ <;> intros
  clear hk
  rw [decide_eq_true ((wld_ext a b).2 ⟨p1, p2, p3, e1, e2, e3, e4, e5, e6⟩)]
end Go.Proofs.Ythejchmhjcfdiaa
