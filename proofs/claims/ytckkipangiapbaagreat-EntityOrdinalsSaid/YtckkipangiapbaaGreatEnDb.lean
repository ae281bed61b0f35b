/-
  The program's tables: numbers that rise, what each row must be.
-/
import Derived.Test.YtckkipangiapbaaGreatEnPure
namespace Go.Proofs.YtckkipangiapbaaGreat
open Go.SL
set_option linter.unusedVariables false
set_option linter.unusedSimpArgs false
set_option maxHeartbeats 8000000
set_option maxRecDepth 20000
theorem in_yes (n a b : Int) (h1 : a ≤ n) (h2 : n ≤ b) : Trip Tryz.prog 186 [.int .i64 n, .int .i64 a, .int .i64 b] [] (fun v Ps => v = .bool true ∧ Ps = []) := by
  refine Trip.of (m := 15) Tryz.func186 rfl rfl rfl ?_
  intro o Rs
  simp only [List.cons_append, List.nil_append, enumFrom]
  refine go ?_
  refine ⟨?_, by simp⟩ <;> intros
  rw [decide_eq_true h2]
theorem id_yes (n : Int) (h : 1 ≤ n ∧ n ≤ 1000) : Trip Tryz.prog 185 [.int .i64 n] [] (fun v Ps => v = .bool true ∧ Ps = []) := by
  refine Trip.of (m := 5) Tryz.func185 rfl rfl rfl ?_
  intro o Rs
  simp only [List.cons_append, List.nil_append, enumFrom]
  have F1 := in_yes n 1 1000 h.1 h.2
  refine go ?_
  simp
theorem key_rm (x : Rm) : Trip Tryz.prog 148 [.agg (rmC x).toArray] [] (fun v Ps => v = .int .i64 (x.id) ∧ Ps = []) := by
  refine Trip.of (m := 5) Tryz.func148 rfl rfl rfl ?_
  intro o Rs
  simp only [List.cons_append, List.nil_append, enumFrom]
  refine go ?_
  simp
theorem key_pr (x : Pro) : Trip Tryz.prog 150 [.agg (proC x).toArray] [] (fun v Ps => v = .int .i64 (x.id) ∧ Ps = []) := by
  refine Trip.of (m := 5) Tryz.func150 rfl rfl rfl ?_
  intro o Rs
  simp only [List.cons_append, List.nil_append, enumFrom]
  refine go ?_
  simp
theorem key_mo (x : Mpr) : Trip Tryz.prog 152 [.agg (mprC x).toArray] [] (fun v Ps => v = .int .i64 (x.id) ∧ Ps = []) := by
  refine Trip.of (m := 5) Tryz.func152 rfl rfl rfl ?_
  intro o Rs
  simp only [List.cons_append, List.nil_append, enumFrom]
  refine go ?_
  simp
theorem key_rc (x : Rcp × PA) : Trip Tryz.prog 154 [.agg (rcpC x.1 x.2).toArray] [] (fun v Ps => v = .int .i64 (x.1.out) ∧ Ps = []) := by
  refine Trip.of (m := 5) Tryz.func154 rfl rfl rfl ?_
  intro o Rs
  simp only [List.cons_append, List.nil_append, enumFrom]
  refine go ?_
  simp
theorem key_qu (x : Qst) : Trip Tryz.prog 156 [.agg (qstC x).toArray] [] (fun v Ps => v = .int .i64 (x.id) ∧ Ps = []) := by
  refine Trip.of (m := 5) Tryz.func156 rfl rfl rfl ?_
  intro o Rs
  simp only [List.cons_append, List.nil_append, enumFrom]
  refine go ?_
  simp
theorem key_sh (x : Shp × PA) : Trip Tryz.prog 158 [.agg (shpC x.1 x.2).toArray] [] (fun v Ps => v = .int .i64 (x.1.room) ∧ Ps = []) := by
  refine Trip.of (m := 5) Tryz.func158 rfl rfl rfl ?_
  intro o Rs
  simp only [List.cons_append, List.nil_append, enumFrom]
  refine go ?_
  simp
theorem key_in (x : Int) : Trip Tryz.prog 191 [.int .i64 x] [] (fun v Ps => v = .int .i64 x ∧ Ps = []) := by
  refine Trip.of (m := 4) Tryz.func191 rfl rfl rfl ?_
  intro o Rs
  simp only [List.cons_append, List.nil_append, enumFrom]
  refine go ?_
  simp
theorem rise_rm (l : List (Rm)) (A : Option Addr) (c : Nat) (most : Nat) (h : Ri (l.map fun x => x.id) most) (hm : most ≤ 1000) (P : HProp) (hP : Reads P (Xr) A l) :
    Trip Tryz.prog 147 [.slice A l.length c, .int .i64 (most : Int), .func (.func 148) #[] #[]] [P] (fun v Ps => v = .bool true ∧ Ps = [P]) := by
  refine Trip.of (m := 43) Tryz.func147 rfl rfl rfl ?_
  intro o Rs
  simp only [List.cons_append, List.nil_append, enumFrom]
  haveI : Plans 4 [17] [2, 3, 11, 17, 18] [[0, 1, 2, 3, 4, 5, 6, 7, 8, 9, 10, 12, 13, 14, 15, 16, 11, 17, 18, 19, 20, 21], [0, 1, 2, 3, 4, 5, 6, 7, 8, 9, 10, 12, 13, 14, 15, 16, 17, 11, 18, 19, 20, 21]] := ⟨⟩
  have hll : l.length ≤ most := by have := h.len; rwa [List.length_map] at this
  refine go ?_
  refine ⟨?_, by simp⟩ <;> intros
  refine loop (fun k => k ≤ l.length) (fun k => [(0, .slice A l.length c), (1, .int .i64 (most : Int)), (2, .func (.func 148) #[] #[]), (9, .slice A l.length c), (10, .int .i64 (l.length : Int)), (11, .int .i64 (k : Int))]) (fun k => P :: Rs) (fun k => l.length - k) 0 (Nat.zero_le _) fun k h1 => ?_
  by_cases hk : k < l.length
  · obtain ⟨x, hx⟩ : ∃ x, l[k]? = some x := ⟨_, List.getElem?_eq_getElem hk⟩
    have hid := h.id (x.id) (List.mem_map.2 ⟨x, List.mem_of_getElem? hx, rfl⟩)
    have F1 := key_rm x
    have F2 := id_yes (x.id) hid
    by_cases h0 : k = 0
    · subst h0
      refine go ?_
      (repeat' (first | exact trivial | apply And.intro | intro _))
      all_goals exact rnd 1 hk (by omega)
    · obtain ⟨y, hy⟩ : ∃ y, l[k - 1]? = some y := ⟨_, List.getElem?_eq_getElem (by omega)⟩
      have hlt := h.up (k - 1) ((fun x : Rm => x.id) y) (x.id) (by rw [List.getElem?_map, hy]; rfl) (by rw [show k - 1 + 1 = k from by omega, List.getElem?_map, hx]; rfl)
      have hy2 : l[((k : Int) - 1).toNat]? = some y := by rw [show ((k : Int) - 1).toNat = k - 1 from by omega]; exact hy
      have F3 := key_rm y
      simp only at hlt
      refine go ?_
      (repeat' (first | exact trivial | apply And.intro | intro _))
      all_goals first
        | (exfalso; omega)
        | exact rnd (k + 1) hk (by omega)
  · refine go ?_
    refine ⟨?_, by simp⟩ <;> intros
    rw [decide_eq_true (by omega)]
theorem rise_pr (l : List (Pro)) (A : Option Addr) (c : Nat) (most : Nat) (h : Ri (l.map fun x => x.id) most) (hm : most ≤ 1000) (P : HProp) (hP : Reads P (Xp) A l) :
    Trip Tryz.prog 149 [.slice A l.length c, .int .i64 (most : Int), .func (.func 150) #[] #[]] [P] (fun v Ps => v = .bool true ∧ Ps = [P]) := by
  refine Trip.of (m := 43) Tryz.func149 rfl rfl rfl ?_
  intro o Rs
  simp only [List.cons_append, List.nil_append, enumFrom]
  haveI : Plans 4 [17] [2, 3, 11, 17, 18] [[0, 1, 2, 3, 4, 5, 6, 7, 8, 9, 10, 12, 13, 14, 15, 16, 11, 17, 18, 19, 20, 21], [0, 1, 2, 3, 4, 5, 6, 7, 8, 9, 10, 12, 13, 14, 15, 16, 17, 11, 18, 19, 20, 21]] := ⟨⟩
  have hll : l.length ≤ most := by have := h.len; rwa [List.length_map] at this
  refine go ?_
  refine ⟨?_, by simp⟩ <;> intros
  refine loop (fun k => k ≤ l.length) (fun k => [(0, .slice A l.length c), (1, .int .i64 (most : Int)), (2, .func (.func 150) #[] #[]), (9, .slice A l.length c), (10, .int .i64 (l.length : Int)), (11, .int .i64 (k : Int))]) (fun k => P :: Rs) (fun k => l.length - k) 0 (Nat.zero_le _) fun k h1 => ?_
  by_cases hk : k < l.length
  · obtain ⟨x, hx⟩ : ∃ x, l[k]? = some x := ⟨_, List.getElem?_eq_getElem hk⟩
    have hid := h.id (x.id) (List.mem_map.2 ⟨x, List.mem_of_getElem? hx, rfl⟩)
    have F1 := key_pr x
    have F2 := id_yes (x.id) hid
    by_cases h0 : k = 0
    · subst h0
      refine go ?_
      (repeat' (first | exact trivial | apply And.intro | intro _))
      all_goals exact rnd 1 hk (by omega)
    · obtain ⟨y, hy⟩ : ∃ y, l[k - 1]? = some y := ⟨_, List.getElem?_eq_getElem (by omega)⟩
      have hlt := h.up (k - 1) ((fun x : Pro => x.id) y) (x.id) (by rw [List.getElem?_map, hy]; rfl) (by rw [show k - 1 + 1 = k from by omega, List.getElem?_map, hx]; rfl)
      have hy2 : l[((k : Int) - 1).toNat]? = some y := by rw [show ((k : Int) - 1).toNat = k - 1 from by omega]; exact hy
      have F3 := key_pr y
      simp only at hlt
      refine go ?_
      (repeat' (first | exact trivial | apply And.intro | intro _))
      all_goals first
        | (exfalso; omega)
        | exact rnd (k + 1) hk (by omega)
  · refine go ?_
    refine ⟨?_, by simp⟩ <;> intros
    rw [decide_eq_true (by omega)]
theorem rise_mo (l : List (Mpr)) (A : Option Addr) (c : Nat) (most : Nat) (h : Ri (l.map fun x => x.id) most) (hm : most ≤ 1000) (P : HProp) (hP : Reads P (Xm) A l) :
    Trip Tryz.prog 151 [.slice A l.length c, .int .i64 (most : Int), .func (.func 152) #[] #[]] [P] (fun v Ps => v = .bool true ∧ Ps = [P]) := by
  refine Trip.of (m := 43) Tryz.func151 rfl rfl rfl ?_
  intro o Rs
  simp only [List.cons_append, List.nil_append, enumFrom]
  haveI : Plans 4 [17] [2, 3, 11, 17, 18] [[0, 1, 2, 3, 4, 5, 6, 7, 8, 9, 10, 12, 13, 14, 15, 16, 11, 17, 18, 19, 20, 21], [0, 1, 2, 3, 4, 5, 6, 7, 8, 9, 10, 12, 13, 14, 15, 16, 17, 11, 18, 19, 20, 21]] := ⟨⟩
  have hll : l.length ≤ most := by have := h.len; rwa [List.length_map] at this
  refine go ?_
  refine ⟨?_, by simp⟩ <;> intros
  refine loop (fun k => k ≤ l.length) (fun k => [(0, .slice A l.length c), (1, .int .i64 (most : Int)), (2, .func (.func 152) #[] #[]), (9, .slice A l.length c), (10, .int .i64 (l.length : Int)), (11, .int .i64 (k : Int))]) (fun k => P :: Rs) (fun k => l.length - k) 0 (Nat.zero_le _) fun k h1 => ?_
  by_cases hk : k < l.length
  · obtain ⟨x, hx⟩ : ∃ x, l[k]? = some x := ⟨_, List.getElem?_eq_getElem hk⟩
    have hid := h.id (x.id) (List.mem_map.2 ⟨x, List.mem_of_getElem? hx, rfl⟩)
    have F1 := key_mo x
    have F2 := id_yes (x.id) hid
    by_cases h0 : k = 0
    · subst h0
      refine go ?_
      (repeat' (first | exact trivial | apply And.intro | intro _))
      all_goals exact rnd 1 hk (by omega)
    · obtain ⟨y, hy⟩ : ∃ y, l[k - 1]? = some y := ⟨_, List.getElem?_eq_getElem (by omega)⟩
      have hlt := h.up (k - 1) ((fun x : Mpr => x.id) y) (x.id) (by rw [List.getElem?_map, hy]; rfl) (by rw [show k - 1 + 1 = k from by omega, List.getElem?_map, hx]; rfl)
      have hy2 : l[((k : Int) - 1).toNat]? = some y := by rw [show ((k : Int) - 1).toNat = k - 1 from by omega]; exact hy
      have F3 := key_mo y
      simp only at hlt
      refine go ?_
      (repeat' (first | exact trivial | apply And.intro | intro _))
      all_goals first
        | (exfalso; omega)
        | exact rnd (k + 1) hk (by omega)
  · refine go ?_
    refine ⟨?_, by simp⟩ <;> intros
    rw [decide_eq_true (by omega)]
theorem rise_rc (l : List (Rcp × PA)) (A : Option Addr) (c : Nat) (most : Nat) (h : Ri (l.map fun x => x.1.out) most) (hm : most ≤ 1000) (P : HProp) (hP : Reads P (Xc) A l) :
    Trip Tryz.prog 153 [.slice A l.length c, .int .i64 (most : Int), .func (.func 154) #[] #[]] [P] (fun v Ps => v = .bool true ∧ Ps = [P]) := by
  refine Trip.of (m := 43) Tryz.func153 rfl rfl rfl ?_
  intro o Rs
  simp only [List.cons_append, List.nil_append, enumFrom]
  haveI : Plans 4 [17] [2, 3, 11, 17, 18] [[0, 1, 2, 3, 4, 5, 6, 7, 8, 9, 10, 12, 13, 14, 15, 16, 11, 17, 18, 19, 20, 21], [0, 1, 2, 3, 4, 5, 6, 7, 8, 9, 10, 12, 13, 14, 15, 16, 17, 11, 18, 19, 20, 21]] := ⟨⟩
  have hll : l.length ≤ most := by have := h.len; rwa [List.length_map] at this
  refine go ?_
  refine ⟨?_, by simp⟩ <;> intros
  refine loop (fun k => k ≤ l.length) (fun k => [(0, .slice A l.length c), (1, .int .i64 (most : Int)), (2, .func (.func 154) #[] #[]), (9, .slice A l.length c), (10, .int .i64 (l.length : Int)), (11, .int .i64 (k : Int))]) (fun k => P :: Rs) (fun k => l.length - k) 0 (Nat.zero_le _) fun k h1 => ?_
  by_cases hk : k < l.length
  · obtain ⟨x, hx⟩ : ∃ x, l[k]? = some x := ⟨_, List.getElem?_eq_getElem hk⟩
    have hid := h.id (x.1.out) (List.mem_map.2 ⟨x, List.mem_of_getElem? hx, rfl⟩)
    have F1 := key_rc x
    have F2 := id_yes (x.1.out) hid
    by_cases h0 : k = 0
    · subst h0
      refine go ?_
      (repeat' (first | exact trivial | apply And.intro | intro _))
      all_goals exact rnd 1 hk (by omega)
    · obtain ⟨y, hy⟩ : ∃ y, l[k - 1]? = some y := ⟨_, List.getElem?_eq_getElem (by omega)⟩
      have hlt := h.up (k - 1) ((fun x : Rcp × PA => x.1.out) y) (x.1.out) (by rw [List.getElem?_map, hy]; rfl) (by rw [show k - 1 + 1 = k from by omega, List.getElem?_map, hx]; rfl)
      have hy2 : l[((k : Int) - 1).toNat]? = some y := by rw [show ((k : Int) - 1).toNat = k - 1 from by omega]; exact hy
      have F3 := key_rc y
      simp only at hlt
      refine go ?_
      (repeat' (first | exact trivial | apply And.intro | intro _))
      all_goals first
        | (exfalso; omega)
        | exact rnd (k + 1) hk (by omega)
  · refine go ?_
    refine ⟨?_, by simp⟩ <;> intros
    rw [decide_eq_true (by omega)]
theorem rise_qu (l : List (Qst)) (A : Option Addr) (c : Nat) (most : Nat) (h : Ri (l.map fun x => x.id) most) (hm : most ≤ 1000) (P : HProp) (hP : Reads P (Xq) A l) :
    Trip Tryz.prog 155 [.slice A l.length c, .int .i64 (most : Int), .func (.func 156) #[] #[]] [P] (fun v Ps => v = .bool true ∧ Ps = [P]) := by
  refine Trip.of (m := 43) Tryz.func155 rfl rfl rfl ?_
  intro o Rs
  simp only [List.cons_append, List.nil_append, enumFrom]
  haveI : Plans 4 [17] [2, 3, 11, 17, 18] [[0, 1, 2, 3, 4, 5, 6, 7, 8, 9, 10, 12, 13, 14, 15, 16, 11, 17, 18, 19, 20, 21], [0, 1, 2, 3, 4, 5, 6, 7, 8, 9, 10, 12, 13, 14, 15, 16, 17, 11, 18, 19, 20, 21]] := ⟨⟩
  have hll : l.length ≤ most := by have := h.len; rwa [List.length_map] at this
  refine go ?_
  refine ⟨?_, by simp⟩ <;> intros
  refine loop (fun k => k ≤ l.length) (fun k => [(0, .slice A l.length c), (1, .int .i64 (most : Int)), (2, .func (.func 156) #[] #[]), (9, .slice A l.length c), (10, .int .i64 (l.length : Int)), (11, .int .i64 (k : Int))]) (fun k => P :: Rs) (fun k => l.length - k) 0 (Nat.zero_le _) fun k h1 => ?_
  by_cases hk : k < l.length
  · obtain ⟨x, hx⟩ : ∃ x, l[k]? = some x := ⟨_, List.getElem?_eq_getElem hk⟩
    have hid := h.id (x.id) (List.mem_map.2 ⟨x, List.mem_of_getElem? hx, rfl⟩)
    have F1 := key_qu x
    have F2 := id_yes (x.id) hid
    by_cases h0 : k = 0
    · subst h0
      refine go ?_
      (repeat' (first | exact trivial | apply And.intro | intro _))
      all_goals exact rnd 1 hk (by omega)
    · obtain ⟨y, hy⟩ : ∃ y, l[k - 1]? = some y := ⟨_, List.getElem?_eq_getElem (by omega)⟩
      have hlt := h.up (k - 1) ((fun x : Qst => x.id) y) (x.id) (by rw [List.getElem?_map, hy]; rfl) (by rw [show k - 1 + 1 = k from by omega, List.getElem?_map, hx]; rfl)
      have hy2 : l[((k : Int) - 1).toNat]? = some y := by rw [show ((k : Int) - 1).toNat = k - 1 from by omega]; exact hy
      have F3 := key_qu y
      simp only at hlt
      refine go ?_
      (repeat' (first | exact trivial | apply And.intro | intro _))
      all_goals first
        | (exfalso; omega)
        | exact rnd (k + 1) hk (by omega)
  · refine go ?_
    refine ⟨?_, by simp⟩ <;> intros
    rw [decide_eq_true (by omega)]
theorem rise_sh (l : List (Shp × PA)) (A : Option Addr) (c : Nat) (most : Nat) (h : Ri (l.map fun x => x.1.room) most) (hm : most ≤ 1000) (P : HProp) (hP : Reads P (Xs) A l) :
    Trip Tryz.prog 157 [.slice A l.length c, .int .i64 (most : Int), .func (.func 158) #[] #[]] [P] (fun v Ps => v = .bool true ∧ Ps = [P]) := by
  refine Trip.of (m := 43) Tryz.func157 rfl rfl rfl ?_
  intro o Rs
  simp only [List.cons_append, List.nil_append, enumFrom]
  haveI : Plans 4 [17] [2, 3, 11, 17, 18] [[0, 1, 2, 3, 4, 5, 6, 7, 8, 9, 10, 12, 13, 14, 15, 16, 11, 17, 18, 19, 20, 21], [0, 1, 2, 3, 4, 5, 6, 7, 8, 9, 10, 12, 13, 14, 15, 16, 17, 11, 18, 19, 20, 21]] := ⟨⟩
  have hll : l.length ≤ most := by have := h.len; rwa [List.length_map] at this
  refine go ?_
  refine ⟨?_, by simp⟩ <;> intros
  refine loop (fun k => k ≤ l.length) (fun k => [(0, .slice A l.length c), (1, .int .i64 (most : Int)), (2, .func (.func 158) #[] #[]), (9, .slice A l.length c), (10, .int .i64 (l.length : Int)), (11, .int .i64 (k : Int))]) (fun k => P :: Rs) (fun k => l.length - k) 0 (Nat.zero_le _) fun k h1 => ?_
  by_cases hk : k < l.length
  · obtain ⟨x, hx⟩ : ∃ x, l[k]? = some x := ⟨_, List.getElem?_eq_getElem hk⟩
    have hid := h.id (x.1.room) (List.mem_map.2 ⟨x, List.mem_of_getElem? hx, rfl⟩)
    have F1 := key_sh x
    have F2 := id_yes (x.1.room) hid
    by_cases h0 : k = 0
    · subst h0
      refine go ?_
      (repeat' (first | exact trivial | apply And.intro | intro _))
      all_goals exact rnd 1 hk (by omega)
    · obtain ⟨y, hy⟩ : ∃ y, l[k - 1]? = some y := ⟨_, List.getElem?_eq_getElem (by omega)⟩
      have hlt := h.up (k - 1) ((fun x : Shp × PA => x.1.room) y) (x.1.room) (by rw [List.getElem?_map, hy]; rfl) (by rw [show k - 1 + 1 = k from by omega, List.getElem?_map, hx]; rfl)
      have hy2 : l[((k : Int) - 1).toNat]? = some y := by rw [show ((k : Int) - 1).toNat = k - 1 from by omega]; exact hy
      have F3 := key_sh y
      simp only at hlt
      refine go ?_
      (repeat' (first | exact trivial | apply And.intro | intro _))
      all_goals first
        | (exfalso; omega)
        | exact rnd (k + 1) hk (by omega)
  · refine go ?_
    refine ⟨?_, by simp⟩ <;> intros
    rw [decide_eq_true (by omega)]
theorem rise_in (l : List (Int)) (A : Option Addr) (c : Nat) (most : Nat) (h : Ri (l.map fun x => x) most) (hm : most ≤ 1000) (P : HProp) (hP : Reads P (E64) A l) :
    Trip Tryz.prog 190 [.slice A l.length c, .int .i64 (most : Int), .func (.func 191) #[] #[]] [P] (fun v Ps => v = .bool true ∧ Ps = [P]) := by
  refine Trip.of (m := 43) Tryz.func190 rfl rfl rfl ?_
  intro o Rs
  simp only [List.cons_append, List.nil_append, enumFrom]
  haveI : Plans 4 [] [2, 3, 11, 17, 18] [[0, 1, 2, 3, 4, 5, 6, 7, 8, 9, 10, 12, 13, 14, 15, 16, 11, 17, 18, 19, 20, 21], [0, 1, 2, 3, 4, 5, 6, 7, 8, 9, 10, 12, 13, 14, 15, 16, 17, 11, 18, 19, 20, 21]] := ⟨⟩
  have hll : l.length ≤ most := by have := h.len; rwa [List.length_map] at this
  refine go ?_
  refine ⟨?_, by simp⟩ <;> intros
  refine loop (fun k => k ≤ l.length) (fun k => [(0, .slice A l.length c), (1, .int .i64 (most : Int)), (2, .func (.func 191) #[] #[]), (9, .slice A l.length c), (10, .int .i64 (l.length : Int)), (11, .int .i64 (k : Int))]) (fun k => P :: Rs) (fun k => l.length - k) 0 (Nat.zero_le _) fun k h1 => ?_
  by_cases hk : k < l.length
  · obtain ⟨x, hx⟩ : ∃ x, l[k]? = some x := ⟨_, List.getElem?_eq_getElem hk⟩
    have hid := h.id (x) (List.mem_map.2 ⟨x, List.mem_of_getElem? hx, rfl⟩)
    have F1 := key_in x
    have F2 := id_yes (x) hid
    by_cases h0 : k = 0
    · subst h0
      refine go ?_
      (repeat' (first | exact trivial | apply And.intro | intro _))
      all_goals exact rnd 1 hk (by omega)
    · obtain ⟨y, hy⟩ : ∃ y, l[k - 1]? = some y := ⟨_, List.getElem?_eq_getElem (by omega)⟩
      have hlt := h.up (k - 1) ((fun x : Int => x) y) (x) (by rw [List.getElem?_map, hy]; rfl) (by rw [show k - 1 + 1 = k from by omega, List.getElem?_map, hx]; rfl)
      have hy2 : l[((k : Int) - 1).toNat]? = some y := by rw [show ((k : Int) - 1).toNat = k - 1 from by omega]; exact hy
      have F3 := key_in y
      simp only at hlt
      refine go ?_
      (repeat' (first | exact trivial | apply And.intro | intro _))
      all_goals first
        | (exfalso; omega)
        | exact rnd (k + 1) hk (by omega)
  · refine go ?_
    refine ⟨?_, by simp⟩ <;> intros
    rw [decide_eq_true (by omega)]
end Go.Proofs.YtckkipangiapbaaGreat
