/-
  Walks and laws joined: WdLeaf.
-/
import Derived.Test.YtflmbhkjhfmeoaaGreatQ02
set_option linter.unusedVariables false
set_option linter.unusedSimpArgs false
namespace Go.Proofs.YtflmbhkjhfmeoaaGreat
open Go.SL
set_option maxHeartbeats 8000000
set_option maxRecDepth 20000
theorem Room_spec (d : Nat) (m : Tay) (t : Tab) (id : Int) (hl : t.rooms.length ≤ 1000000) (P : HProp) [hp : RT P d m t] : Trip Tryz.prog 120 [.pointer (some ⟨d, 0, none⟩), .int .i64 id] [P] (fun v Ps => v = .int .i64 (iv (roomI t id)) ∧ Ps = [P]) := by
  refine Trip.of (m := 26) Tryz.func120 rfl rfl rfl ?_
  intro o Rs
  simp only [List.cons_append, List.nil_append, enumFrom]
  unfold roomI
  refine go ?_
  refine ⟨?_, by simp⟩ <;> intros
  refine loop (fun k => k ≤ t.rooms.length ∧ (t.rooms.take k).findIdx? (fun x => x.id == id) = none) (fun k => [(0, .pointer (some ⟨d, 0, none⟩)), (1, .int .i64 id), (5, .int .i64 (k : Int))]) (fun k => P :: Rs) (fun k => t.rooms.length - k) 0 ⟨Nat.zero_le _, find_zero⟩ fun k ⟨h1, h2⟩ => ?_
  by_cases hk : k < t.rooms.length
  · obtain ⟨x, hx⟩ : ∃ x, t.rooms[k]? = some x := ⟨_, List.getElem?_eq_getElem hk⟩
    refine go ?_
    refine ⟨fun h0 h3 => ?_, fun h0 h3 => ?_, by simp⟩
    · rw [find_hit h2 hx (by simpa using h3)]; rfl
    · exact rnd (k + 1) ⟨hk, find_miss h2 hx (by simpa using h3)⟩ (by omega)
  · refine go ?_
    refine ⟨?_, by simp⟩ <;> intros
    rw [find_end h2 hk]; rfl
theorem Proto_spec (d : Nat) (m : Tay) (t : Tab) (id : Int) (hl : t.protos.length ≤ 1000000) (P : HProp) [hp : RT P d m t] : Trip Tryz.prog 61 [.pointer (some ⟨d, 0, none⟩), .int .i64 id] [P] (fun v Ps => v = .int .i64 (iv (protoI t id)) ∧ Ps = [P]) := by
  refine Trip.of (m := 26) Tryz.func61 rfl rfl rfl ?_
  intro o Rs
  simp only [List.cons_append, List.nil_append, enumFrom]
  unfold protoI
  refine go ?_
  refine ⟨?_, by simp⟩ <;> intros
  refine loop (fun k => k ≤ t.protos.length ∧ (t.protos.take k).findIdx? (fun x => x.id == id) = none) (fun k => [(0, .pointer (some ⟨d, 0, none⟩)), (1, .int .i64 id), (5, .int .i64 (k : Int))]) (fun k => P :: Rs) (fun k => t.protos.length - k) 0 ⟨Nat.zero_le _, find_zero⟩ fun k ⟨h1, h2⟩ => ?_
  by_cases hk : k < t.protos.length
  · obtain ⟨x, hx⟩ : ∃ x, t.protos[k]? = some x := ⟨_, List.getElem?_eq_getElem hk⟩
    refine go ?_
    refine ⟨fun h0 h3 => ?_, fun h0 h3 => ?_, by simp⟩
    · rw [find_hit h2 hx (by simpa using h3)]; rfl
    · exact rnd (k + 1) ⟨hk, find_miss h2 hx (by simpa using h3)⟩ (by omega)
  · refine go ?_
    refine ⟨?_, by simp⟩ <;> intros
    rw [find_end h2 hk]; rfl
theorem Mpr_spec (d : Nat) (m : Tay) (t : Tab) (id : Int) (hl : t.mobs.length ≤ 1000000) (P : HProp) [hp : RT P d m t] : Trip Tryz.prog 114 [.pointer (some ⟨d, 0, none⟩), .int .i64 id] [P] (fun v Ps => v = .int .i64 (iv (mprI t id)) ∧ Ps = [P]) := by
  refine Trip.of (m := 26) Tryz.func114 rfl rfl rfl ?_
  intro o Rs
  simp only [List.cons_append, List.nil_append, enumFrom]
  unfold mprI
  refine go ?_
  refine ⟨?_, by simp⟩ <;> intros
  refine loop (fun k => k ≤ t.mobs.length ∧ (t.mobs.take k).findIdx? (fun x => x.id == id) = none) (fun k => [(0, .pointer (some ⟨d, 0, none⟩)), (1, .int .i64 id), (5, .int .i64 (k : Int))]) (fun k => P :: Rs) (fun k => t.mobs.length - k) 0 ⟨Nat.zero_le _, find_zero⟩ fun k ⟨h1, h2⟩ => ?_
  by_cases hk : k < t.mobs.length
  · obtain ⟨x, hx⟩ : ∃ x, t.mobs[k]? = some x := ⟨_, List.getElem?_eq_getElem hk⟩
    refine go ?_
    refine ⟨fun h0 h3 => ?_, fun h0 h3 => ?_, by simp⟩
    · rw [find_hit h2 hx (by simpa using h3)]; rfl
    · exact rnd (k + 1) ⟨hk, find_miss h2 hx (by simpa using h3)⟩ (by omega)
  · refine go ?_
    refine ⟨?_, by simp⟩ <;> intros
    rw [find_end h2 hk]; rfl
theorem Thing_spec (d : Nat) (m : Lay) (w : Wld) (id : Int) (hl : w.things.length ≤ 1000000) (P : HProp) [hp : RW P d m w] : Trip Tryz.prog 93 [.pointer (some ⟨d, 0, none⟩), .int .i64 id] [P] (fun v Ps => v = .int .i64 (iv (thingI w id)) ∧ Ps = [P]) := by
  refine Trip.of (m := 26) Tryz.func93 rfl rfl rfl ?_
  intro o Rs
  simp only [List.cons_append, List.nil_append, enumFrom]
  unfold thingI
  refine go ?_
  refine ⟨?_, by simp⟩ <;> intros
  refine loop (fun k => k ≤ w.things.length ∧ (w.things.take k).findIdx? (fun x => x.id == id) = none) (fun k => [(0, .pointer (some ⟨d, 0, none⟩)), (1, .int .i64 id), (5, .int .i64 (k : Int))]) (fun k => P :: Rs) (fun k => w.things.length - k) 0 ⟨Nat.zero_le _, find_zero⟩ fun k ⟨h1, h2⟩ => ?_
  by_cases hk : k < w.things.length
  · obtain ⟨x, hx⟩ : ∃ x, w.things[k]? = some x := ⟨_, List.getElem?_eq_getElem hk⟩
    refine go ?_
    refine ⟨fun h0 h3 => ?_, fun h0 h3 => ?_, by simp⟩
    · rw [find_hit h2 hx (by simpa using h3)]; rfl
    · exact rnd (k + 1) ⟨hk, find_miss h2 hx (by simpa using h3)⟩ (by omega)
  · refine go ?_
    refine ⟨?_, by simp⟩ <;> intros
    rw [find_end h2 hk]; rfl
theorem MobAt_spec (d : Nat) (m : Lay) (w : Wld) (id : Int) (hl : w.mobs.length ≤ 1000000) (P : HProp) [hp : RW P d m w] : Trip Tryz.prog 274 [.pointer (some ⟨d, 0, none⟩), .int .i64 id] [P] (fun v Ps => v = .int .i64 (iv (mobI w id)) ∧ Ps = [P]) := by
  refine Trip.of (m := 26) Tryz.func274 rfl rfl rfl ?_
  intro o Rs
  simp only [List.cons_append, List.nil_append, enumFrom]
  unfold mobI
  refine go ?_
  refine ⟨?_, by simp⟩ <;> intros
  refine loop (fun k => k ≤ w.mobs.length ∧ (w.mobs.take k).findIdx? (fun x => x.id == id) = none) (fun k => [(0, .pointer (some ⟨d, 0, none⟩)), (1, .int .i64 id), (5, .int .i64 (k : Int))]) (fun k => P :: Rs) (fun k => w.mobs.length - k) 0 ⟨Nat.zero_le _, find_zero⟩ fun k ⟨h1, h2⟩ => ?_
  by_cases hk : k < w.mobs.length
  · obtain ⟨x, hx⟩ : ∃ x, w.mobs[k]? = some x := ⟨_, List.getElem?_eq_getElem hk⟩
    refine go ?_
    refine ⟨fun h0 h3 => ?_, fun h0 h3 => ?_, by simp⟩
    · rw [find_hit h2 hx (by simpa using h3)]; rfl
    · exact rnd (k + 1) ⟨hk, find_miss h2 hx (by simpa using h3)⟩ (by omega)
  · refine go ?_
    refine ⟨?_, by simp⟩ <;> intros
    rw [find_end h2 hk]; rfl
theorem Char_spec (d : Nat) (m : Lay) (w : Wld) (name : Tx) (hl : w.chars.length ≤ 1000000) (lm : Laid m w) (P : HProp) [hp : RW P d m w] : Trip Tryz.prog 39 [.pointer (some ⟨d, 0, none⟩), str name] [P] (fun v Ps => v = .int .i64 (iv (charI w name)) ∧ Ps = [P]) := by
  refine Trip.of (m := 26) Tryz.func39 rfl rfl rfl ?_
  intro o Rs
  simp only [List.cons_append, List.nil_append, enumFrom]
  have zc : w.chars.length = (w.chars.zip m.dn).length := by rw [List.length_zip, lm.1, Nat.min_self]
  unfold charI
  refine go ?_
  refine ⟨?_, by simp⟩ <;> intros
  refine loop (fun k => k ≤ w.chars.length ∧ (w.chars.take k).findIdx? (fun x => x.name == name) = none) (fun k => [(0, .pointer (some ⟨d, 0, none⟩)), (1, str name), (5, .int .i64 (k : Int))]) (fun k => P :: Rs) (fun k => w.chars.length - k) 0 ⟨Nat.zero_le _, find_zero⟩ fun k ⟨h1, h2⟩ => ?_
  by_cases hk : k < w.chars.length
  · obtain ⟨x, hx⟩ : ∃ x, w.chars[k]? = some x := ⟨_, List.getElem?_eq_getElem hk⟩
    obtain ⟨⟨A, c⟩, hz, _⟩ := zip_get hx lm.1
    refine go ?_
    refine ⟨fun h0 h3 => ?_, fun h0 h3 => ?_, by simp⟩
    · rw [find_hit h2 hx (by simpa using h3)]; rfl
    · exact rnd (k + 1) ⟨hk, find_miss h2 hx (by simpa using h3)⟩ (by omega)
  · refine go ?_
    refine ⟨?_, by simp⟩ <;> intros
    rw [find_end h2 hk]; rfl
theorem Here_spec (d : Nat) (m : Lay) (w : Wld) (room : Int) (hl : w.things.length ≤ 1000000) (P : HProp) [hp : RW P d m w] : Trip Tryz.prog 41 [.pointer (some ⟨d, 0, none⟩), .int .i64 room] [P] (fun v Ps => ∃ A c, v = .slice A (ints (hereL w room)).length c ∧ Ps = [P, sl E64 3 A c (ints (hereL w room))]) := by
  refine Trip.of (m := 42) Tryz.func41 rfl rfl rfl ?_
  intro o Rs
  simp only [List.cons_append, List.nil_append, enumFrom]
  unfold hereL
  refine go ?_
  refine ⟨?_, by simp⟩ <;> intros
  refine loop (σ := Nat × PA) (fun x => x.1 ≤ w.things.length) (fun x => [(0, .pointer (some ⟨d, 0, none⟩)), (1, .int .i64 room), (5, .slice x.2.1 (ints (pos (fun x : Thg => x.place == 1 && x.room == room) (w.things.take x.1))).length x.2.2), (6, .int .i64 (x.1 : Int))]) (fun x => sl E64 3 x.2.1 x.2.2 (ints (pos (fun x : Thg => x.place == 1 && x.room == room) (w.things.take x.1))) :: P :: Rs) (fun x => w.things.length - x.1) (0, none, 0) (Nat.zero_le _) ?_
  rintro ⟨k, A, c⟩ hk
  simp only at hk ⊢
  by_cases hk2 : k < w.things.length
  · obtain ⟨x, hx⟩ : ∃ x, w.things[k]? = some x := ⟨_, List.getElem?_eq_getElem hk2⟩
    have hy := pos_yes (p := fun x : Thg => x.place == 1 && x.room == room) hx
    have hn := pos_no (p := fun x : Thg => x.place == 1 && x.room == room) hx
    have hb : (ints (pos (fun x : Thg => x.place == 1 && x.room == room) (w.things.take k))).length ≤ 1000000 := by
      have := pos_len (fun x : Thg => x.place == 1 && x.room == room) (w.things.take k)
      rw [List.length_take] at this; rw [ints, List.length_map]; omega
    generalize ints (pos (fun x : Thg => x.place == 1 && x.room == room) (w.things.take k)) = l at *
    refine go ?_
    (repeat' (first | exact trivial | apply And.intro | intro _))
    all_goals first
      | (rename_i A' c'; rw [← hy (by (try clear zc); simp_all)]; exact rnd (k + 1, A', c') hk2 (by simp only; omega))
      | (rw [← hn (by (try clear zc); simp_all)]; exact rnd (k + 1, A, c) hk2 (by simp only; omega))
  · rw [pos_end hk2]
    refine go ?_
    refine ⟨?_, by simp⟩ <;> intros
    exact ret1 ⟨A, c, rfl, rfl⟩
theorem Of_spec (d : Nat) (m : Lay) (w : Wld) (name : Tx) (place : Int) (hl : w.things.length ≤ 1000000) (P : HProp) [hp : RW P d m w] : Trip Tryz.prog 37 [.pointer (some ⟨d, 0, none⟩), str name, .int .i64 place] [P] (fun v Ps => ∃ A c, v = .slice A (ints (ofL w name place)).length c ∧ Ps = [P, sl E64 3 A c (ints (ofL w name place))]) := by
  refine Trip.of (m := 55) Tryz.func37 rfl rfl rfl ?_
  intro o Rs
  simp only [List.cons_append, List.nil_append, enumFrom]
  unfold ofL
  refine go ?_
  refine ⟨?_, by simp⟩ <;> intros
  refine loop (σ := Nat × PA) (fun x => x.1 ≤ w.things.length) (fun x => [(0, .pointer (some ⟨d, 0, none⟩)), (1, str name), (2, .int .i64 place), (7, .slice x.2.1 (ints (pos (fun x : Thg => (x.place == 2 || x.place == 3) && x.place == place && x.who == name) (w.things.take x.1))).length x.2.2), (8, .int .i64 (x.1 : Int))]) (fun x => sl E64 3 x.2.1 x.2.2 (ints (pos (fun x : Thg => (x.place == 2 || x.place == 3) && x.place == place && x.who == name) (w.things.take x.1))) :: P :: Rs) (fun x => w.things.length - x.1) (0, none, 0) (Nat.zero_le _) ?_
  rintro ⟨k, A, c⟩ hk
  simp only at hk ⊢
  by_cases hk2 : k < w.things.length
  · obtain ⟨x, hx⟩ : ∃ x, w.things[k]? = some x := ⟨_, List.getElem?_eq_getElem hk2⟩
    have hy := pos_yes (p := fun x : Thg => (x.place == 2 || x.place == 3) && x.place == place && x.who == name) hx
    have hn := pos_no (p := fun x : Thg => (x.place == 2 || x.place == 3) && x.place == place && x.who == name) hx
    have hb : (ints (pos (fun x : Thg => (x.place == 2 || x.place == 3) && x.place == place && x.who == name) (w.things.take k))).length ≤ 1000000 := by
      have := pos_len (fun x : Thg => (x.place == 2 || x.place == 3) && x.place == place && x.who == name) (w.things.take k)
      rw [List.length_take] at this; rw [ints, List.length_map]; omega
    generalize ints (pos (fun x : Thg => (x.place == 2 || x.place == 3) && x.place == place && x.who == name) (w.things.take k)) = l at *
    refine go ?_
    (repeat' (first | exact trivial | apply And.intro | intro _))
    all_goals first
      | (rename_i A' c'; rw [← hy (by (try clear zc); simp_all)]; exact rnd (k + 1, A', c') hk2 (by simp only; omega))
      | (rw [← hn (by (try clear zc); simp_all)]; exact rnd (k + 1, A, c) hk2 (by simp only; omega))
  · rw [pos_end hk2]
    refine go ?_
    refine ⟨?_, by simp⟩ <;> intros
    exact ret1 ⟨A, c, rfl, rfl⟩
theorem Mobs_spec (d : Nat) (m : Lay) (w : Wld) (room : Int) (hl : w.mobs.length ≤ 1000000) (P : HProp) [hp : RW P d m w] : Trip Tryz.prog 43 [.pointer (some ⟨d, 0, none⟩), .int .i64 room] [P] (fun v Ps => ∃ A c, v = .slice A (ints (mobsL w room)).length c ∧ Ps = [P, sl E64 3 A c (ints (mobsL w room))]) := by
  refine Trip.of (m := 31) Tryz.func43 rfl rfl rfl ?_
  intro o Rs
  simp only [List.cons_append, List.nil_append, enumFrom]
  unfold mobsL
  refine go ?_
  refine ⟨?_, by simp⟩ <;> intros
  refine loop (σ := Nat × PA) (fun x => x.1 ≤ w.mobs.length) (fun x => [(0, .pointer (some ⟨d, 0, none⟩)), (1, .int .i64 room), (5, .slice x.2.1 (ints (pos (fun x : Mob => x.room == room) (w.mobs.take x.1))).length x.2.2), (6, .int .i64 (x.1 : Int))]) (fun x => sl E64 3 x.2.1 x.2.2 (ints (pos (fun x : Mob => x.room == room) (w.mobs.take x.1))) :: P :: Rs) (fun x => w.mobs.length - x.1) (0, none, 0) (Nat.zero_le _) ?_
  rintro ⟨k, A, c⟩ hk
  simp only at hk ⊢
  by_cases hk2 : k < w.mobs.length
  · obtain ⟨x, hx⟩ : ∃ x, w.mobs[k]? = some x := ⟨_, List.getElem?_eq_getElem hk2⟩
    have hy := pos_yes (p := fun x : Mob => x.room == room) hx
    have hn := pos_no (p := fun x : Mob => x.room == room) hx
    have hb : (ints (pos (fun x : Mob => x.room == room) (w.mobs.take k))).length ≤ 1000000 := by
      have := pos_len (fun x : Mob => x.room == room) (w.mobs.take k)
      rw [List.length_take] at this; rw [ints, List.length_map]; omega
    generalize ints (pos (fun x : Mob => x.room == room) (w.mobs.take k)) = l at *
    refine go ?_
    (repeat' (first | exact trivial | apply And.intro | intro _))
    all_goals first
      | (rename_i A' c'; rw [← hy (by (try clear zc); simp_all)]; exact rnd (k + 1, A', c') hk2 (by simp only; omega))
      | (rw [← hn (by (try clear zc); simp_all)]; exact rnd (k + 1, A, c) hk2 (by simp only; omega))
  · rw [pos_end hk2]
    refine go ?_
    refine ⟨?_, by simp⟩ <;> intros
    exact ret1 ⟨A, c, rfl, rfl⟩
theorem Who_spec (d : Nat) (m : Lay) (w : Wld) (room : Int) (hl : w.chars.length ≤ 1000000) (lm : Laid m w) (P : HProp) [hp : RW P d m w] : Trip Tryz.prog 45 [.pointer (some ⟨d, 0, none⟩), .int .i64 room] [P] (fun v Ps => ∃ A c, v = .slice A (ints (whoL w room)).length c ∧ Ps = [P, sl E64 3 A c (ints (whoL w room))]) := by
  refine Trip.of (m := 41) Tryz.func45 rfl rfl rfl ?_
  intro o Rs
  simp only [List.cons_append, List.nil_append, enumFrom]
  have zc : w.chars.length = (w.chars.zip m.dn).length := by rw [List.length_zip, lm.1, Nat.min_self]
  unfold whoL
  refine go ?_
  refine ⟨?_, by simp⟩ <;> intros
  refine loop (σ := Nat × PA) (fun x => x.1 ≤ w.chars.length) (fun x => [(0, .pointer (some ⟨d, 0, none⟩)), (1, .int .i64 room), (5, .slice x.2.1 (ints (pos (fun x : Chr => x.on && x.room == room) (w.chars.take x.1))).length x.2.2), (6, .int .i64 (x.1 : Int))]) (fun x => sl E64 3 x.2.1 x.2.2 (ints (pos (fun x : Chr => x.on && x.room == room) (w.chars.take x.1))) :: P :: Rs) (fun x => w.chars.length - x.1) (0, none, 0) (Nat.zero_le _) ?_
  rintro ⟨k, A, c⟩ hk
  simp only at hk ⊢
  by_cases hk2 : k < w.chars.length
  · obtain ⟨x, hx⟩ : ∃ x, w.chars[k]? = some x := ⟨_, List.getElem?_eq_getElem hk2⟩
    obtain ⟨⟨A0, c0⟩, hz, _⟩ := zip_get hx lm.1
    have hy := pos_yes (p := fun x : Chr => x.on && x.room == room) hx
    have hn := pos_no (p := fun x : Chr => x.on && x.room == room) hx
    have hb : (ints (pos (fun x : Chr => x.on && x.room == room) (w.chars.take k))).length ≤ 1000000 := by
      have := pos_len (fun x : Chr => x.on && x.room == room) (w.chars.take k)
      rw [List.length_take] at this; rw [ints, List.length_map]; omega
    generalize ints (pos (fun x : Chr => x.on && x.room == room) (w.chars.take k)) = l at *
    refine go ?_
    (repeat' (first | exact trivial | apply And.intro | intro _))
    all_goals first
      | (rename_i A' c'; rw [← hy (by (try clear zc); simp_all)]; exact rnd (k + 1, A', c') hk2 (by simp only; omega))
      | (rw [← hn (by (try clear zc); simp_all)]; exact rnd (k + 1, A, c) hk2 (by simp only; omega))
  · rw [pos_end hk2]
    refine go ?_
    refine ⟨?_, by simp⟩ <;> intros
    exact ret1 ⟨A, c, rfl, rfl⟩
end Go.Proofs.YtflmbhkjhfmeoaaGreat
