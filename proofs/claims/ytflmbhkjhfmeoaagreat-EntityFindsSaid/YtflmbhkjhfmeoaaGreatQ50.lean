/-
  Walks and laws joined: EnDb.
-/
import Derived.Test.YtflmbhkjhfmeoaaGreatQ09
set_option linter.unusedVariables false
set_option linter.unusedSimpArgs false
namespace Go.Proofs.YtflmbhkjhfmeoaaGreat
open Go.SL
set_option maxHeartbeats 8000000
set_option maxRecDepth 20000
theorem key_rm (x : Rm) : Trip Tryz.prog 240 [.agg (rmC x).toArray] [] (fun v Ps => v = .int .i64 (x.id) ∧ Ps = []) := by
  refine Trip.of (m := 5) Tryz.func240 rfl rfl rfl ?_
  intro o Rs
  simp only [List.cons_append, List.nil_append, enumFrom]
  refine go ?_
  simp
theorem key_pr (x : Pro) : Trip Tryz.prog 242 [.agg (proC x).toArray] [] (fun v Ps => v = .int .i64 (x.id) ∧ Ps = []) := by
  refine Trip.of (m := 5) Tryz.func242 rfl rfl rfl ?_
  intro o Rs
  simp only [List.cons_append, List.nil_append, enumFrom]
  refine go ?_
  simp
theorem key_mo (x : Mpr) : Trip Tryz.prog 244 [.agg (mprC x).toArray] [] (fun v Ps => v = .int .i64 (x.id) ∧ Ps = []) := by
  refine Trip.of (m := 5) Tryz.func244 rfl rfl rfl ?_
  intro o Rs
  simp only [List.cons_append, List.nil_append, enumFrom]
  refine go ?_
  simp
theorem key_rc (x : Rcp × PA) : Trip Tryz.prog 246 [.agg (rcpC x.1 x.2).toArray] [] (fun v Ps => v = .int .i64 (x.1.out) ∧ Ps = []) := by
  refine Trip.of (m := 5) Tryz.func246 rfl rfl rfl ?_
  intro o Rs
  simp only [List.cons_append, List.nil_append, enumFrom]
  refine go ?_
  simp
theorem key_qu (x : Qst) : Trip Tryz.prog 248 [.agg (qstC x).toArray] [] (fun v Ps => v = .int .i64 (x.id) ∧ Ps = []) := by
  refine Trip.of (m := 5) Tryz.func248 rfl rfl rfl ?_
  intro o Rs
  simp only [List.cons_append, List.nil_append, enumFrom]
  refine go ?_
  simp
theorem key_sh (x : Shp × PA) : Trip Tryz.prog 250 [.agg (shpC x.1 x.2).toArray] [] (fun v Ps => v = .int .i64 (x.1.room) ∧ Ps = []) := by
  refine Trip.of (m := 5) Tryz.func250 rfl rfl rfl ?_
  intro o Rs
  simp only [List.cons_append, List.nil_append, enumFrom]
  refine go ?_
  simp
theorem key_in (x : Int) : Trip Tryz.prog 284 [.int .i64 x] [] (fun v Ps => v = .int .i64 x ∧ Ps = []) := by
  refine Trip.of (m := 4) Tryz.func284 rfl rfl rfl ?_
  intro o Rs
  simp only [List.cons_append, List.nil_append, enumFrom]
  refine go ?_
  simp
theorem rise_rm (l : List (Rm)) (A : Option Addr) (c : Nat) (most : Nat) (h : Ri (l.map fun x => x.id) most) (hm : most ≤ 1000) (P : HProp) (hP : Reads P (Xr) A l) :
    Trip Tryz.prog 239 [.slice A l.length c, .int .i64 (most : Int), .func (.func 240) #[] #[]] [P] (fun v Ps => v = .bool true ∧ Ps = [P]) := by
  refine Trip.of (m := 43) Tryz.func239 rfl rfl rfl ?_
  intro o Rs
  simp only [List.cons_append, List.nil_append, enumFrom]
  haveI : Plans 4 [17] [2, 3, 11, 17, 18] [[0, 1, 2, 3, 4, 5, 6, 7, 8, 9, 10, 12, 13, 14, 15, 16, 11, 17, 18, 19, 20, 21], [0, 1, 2, 3, 4, 5, 6, 7, 8, 9, 10, 12, 13, 14, 15, 16, 17, 11, 18, 19, 20, 21]] := ⟨⟩
  have hll : l.length ≤ most := by have := h.len; rwa [List.length_map] at this
  refine go ?_
  refine ⟨?_, by simp⟩ <;> intros
  refine loop (fun k => k ≤ l.length) (fun k => [(0, .slice A l.length c), (1, .int .i64 (most : Int)), (2, .func (.func 240) #[] #[]), (9, .slice A l.length c), (10, .int .i64 (l.length : Int)), (11, .int .i64 (k : Int))]) (fun k => P :: Rs) (fun k => l.length - k) 0 (Nat.zero_le _) fun k h1 => ?_
  by_cases hk : k < l.length
  · obtain ⟨x, hx⟩ : ∃ x, l[k]? = some x := ⟨_, List.getElem?_eq_getElem hk⟩
    have hid := h.id (x.id) (List.mem_map.2 ⟨x, List.mem_of_getElem? hx, rfl⟩)
    have F1 := key_rm x
    have F2 := id_yes (x.id) hid
    by_cases h0 : k = 0
    · subst h0
      refine go ?_
      (repeat' (first | exact trivial | apply And.intro | intro _))
      all_goals exact rnd 1 hk (by omega)
    · obtain ⟨y, hy⟩ : ∃ y, l[k - 1]? = some y := ⟨_, List.getElem?_eq_getElem (by omega)⟩
      have hlt := h.up (k - 1) ((fun x : Rm => x.id) y) (x.id) (by rw [List.getElem?_map, hy]; rfl) (by rw [show k - 1 + 1 = k from by omega, List.getElem?_map, hx]; rfl)
      have hy2 : l[((k : Int) - 1).toNat]? = some y := by rw [show ((k : Int) - 1).toNat = k - 1 from by omega]; exact hy
      have F3 := key_rm y
      simp only at hlt
      refine go ?_
      (repeat' (first | exact trivial | apply And.intro | intro _))
      all_goals first
        | (exfalso; omega)
        | exact rnd (k + 1) hk (by omega)
  · refine go ?_
    refine ⟨?_, by simp⟩ <;> intros
    rw [decide_eq_true (by omega)]
theorem rise_pr (l : List (Pro)) (A : Option Addr) (c : Nat) (most : Nat) (h : Ri (l.map fun x => x.id) most) (hm : most ≤ 1000) (P : HProp) (hP : Reads P (Xp) A l) :
    Trip Tryz.prog 241 [.slice A l.length c, .int .i64 (most : Int), .func (.func 242) #[] #[]] [P] (fun v Ps => v = .bool true ∧ Ps = [P]) := by
  refine Trip.of (m := 43) Tryz.func241 rfl rfl rfl ?_
  intro o Rs
  simp only [List.cons_append, List.nil_append, enumFrom]
  haveI : Plans 4 [17] [2, 3, 11, 17, 18] [[0, 1, 2, 3, 4, 5, 6, 7, 8, 9, 10, 12, 13, 14, 15, 16, 11, 17, 18, 19, 20, 21], [0, 1, 2, 3, 4, 5, 6, 7, 8, 9, 10, 12, 13, 14, 15, 16, 17, 11, 18, 19, 20, 21]] := ⟨⟩
  have hll : l.length ≤ most := by have := h.len; rwa [List.length_map] at this
  refine go ?_
  refine ⟨?_, by simp⟩ <;> intros
  refine loop (fun k => k ≤ l.length) (fun k => [(0, .slice A l.length c), (1, .int .i64 (most : Int)), (2, .func (.func 242) #[] #[]), (9, .slice A l.length c), (10, .int .i64 (l.length : Int)), (11, .int .i64 (k : Int))]) (fun k => P :: Rs) (fun k => l.length - k) 0 (Nat.zero_le _) fun k h1 => ?_
  by_cases hk : k < l.length
  · obtain ⟨x, hx⟩ : ∃ x, l[k]? = some x := ⟨_, List.getElem?_eq_getElem hk⟩
    have hid := h.id (x.id) (List.mem_map.2 ⟨x, List.mem_of_getElem? hx, rfl⟩)
    have F1 := key_pr x
    have F2 := id_yes (x.id) hid
    by_cases h0 : k = 0
    · subst h0
      refine go ?_
      (repeat' (first | exact trivial | apply And.intro | intro _))
      all_goals exact rnd 1 hk (by omega)
    · obtain ⟨y, hy⟩ : ∃ y, l[k - 1]? = some y := ⟨_, List.getElem?_eq_getElem (by omega)⟩
      have hlt := h.up (k - 1) ((fun x : Pro => x.id) y) (x.id) (by rw [List.getElem?_map, hy]; rfl) (by rw [show k - 1 + 1 = k from by omega, List.getElem?_map, hx]; rfl)
      have hy2 : l[((k : Int) - 1).toNat]? = some y := by rw [show ((k : Int) - 1).toNat = k - 1 from by omega]; exact hy
      have F3 := key_pr y
      simp only at hlt
      refine go ?_
      (repeat' (first | exact trivial | apply And.intro | intro _))
      all_goals first
        | (exfalso; omega)
        | exact rnd (k + 1) hk (by omega)
  · refine go ?_
    refine ⟨?_, by simp⟩ <;> intros
    rw [decide_eq_true (by omega)]
theorem rise_mo (l : List (Mpr)) (A : Option Addr) (c : Nat) (most : Nat) (h : Ri (l.map fun x => x.id) most) (hm : most ≤ 1000) (P : HProp) (hP : Reads P (Xm) A l) :
    Trip Tryz.prog 243 [.slice A l.length c, .int .i64 (most : Int), .func (.func 244) #[] #[]] [P] (fun v Ps => v = .bool true ∧ Ps = [P]) := by
  refine Trip.of (m := 43) Tryz.func243 rfl rfl rfl ?_
  intro o Rs
  simp only [List.cons_append, List.nil_append, enumFrom]
  haveI : Plans 4 [17] [2, 3, 11, 17, 18] [[0, 1, 2, 3, 4, 5, 6, 7, 8, 9, 10, 12, 13, 14, 15, 16, 11, 17, 18, 19, 20, 21], [0, 1, 2, 3, 4, 5, 6, 7, 8, 9, 10, 12, 13, 14, 15, 16, 17, 11, 18, 19, 20, 21]] := ⟨⟩
  have hll : l.length ≤ most := by have := h.len; rwa [List.length_map] at this
  refine go ?_
  refine ⟨?_, by simp⟩ <;> intros
  refine loop (fun k => k ≤ l.length) (fun k => [(0, .slice A l.length c), (1, .int .i64 (most : Int)), (2, .func (.func 244) #[] #[]), (9, .slice A l.length c), (10, .int .i64 (l.length : Int)), (11, .int .i64 (k : Int))]) (fun k => P :: Rs) (fun k => l.length - k) 0 (Nat.zero_le _) fun k h1 => ?_
  by_cases hk : k < l.length
  · obtain ⟨x, hx⟩ : ∃ x, l[k]? = some x := ⟨_, List.getElem?_eq_getElem hk⟩
    have hid := h.id (x.id) (List.mem_map.2 ⟨x, List.mem_of_getElem? hx, rfl⟩)
    have F1 := key_mo x
    have F2 := id_yes (x.id) hid
    by_cases h0 : k = 0
    · subst h0
      refine go ?_
      (repeat' (first | exact trivial | apply And.intro | intro _))
      all_goals exact rnd 1 hk (by omega)
    · obtain ⟨y, hy⟩ : ∃ y, l[k - 1]? = some y := ⟨_, List.getElem?_eq_getElem (by omega)⟩
      have hlt := h.up (k - 1) ((fun x : Mpr => x.id) y) (x.id) (by rw [List.getElem?_map, hy]; rfl) (by rw [show k - 1 + 1 = k from by omega, List.getElem?_map, hx]; rfl)
      have hy2 : l[((k : Int) - 1).toNat]? = some y := by rw [show ((k : Int) - 1).toNat = k - 1 from by omega]; exact hy
      have F3 := key_mo y
      simp only at hlt
      refine go ?_
      (repeat' (first | exact trivial | apply And.intro | intro _))
      all_goals first
        | (exfalso; omega)
        | exact rnd (k + 1) hk (by omega)
  · refine go ?_
    refine ⟨?_, by simp⟩ <;> intros
    rw [decide_eq_true (by omega)]
theorem rise_rc (l : List (Rcp × PA)) (A : Option Addr) (c : Nat) (most : Nat) (h : Ri (l.map fun x => x.1.out) most) (hm : most ≤ 1000) (P : HProp) (hP : Reads P (Xc) A l) :
    Trip Tryz.prog 245 [.slice A l.length c, .int .i64 (most : Int), .func (.func 246) #[] #[]] [P] (fun v Ps => v = .bool true ∧ Ps = [P]) := by
  refine Trip.of (m := 43) Tryz.func245 rfl rfl rfl ?_
  intro o Rs
  simp only [List.cons_append, List.nil_append, enumFrom]
  haveI : Plans 4 [17] [2, 3, 11, 17, 18] [[0, 1, 2, 3, 4, 5, 6, 7, 8, 9, 10, 12, 13, 14, 15, 16, 11, 17, 18, 19, 20, 21], [0, 1, 2, 3, 4, 5, 6, 7, 8, 9, 10, 12, 13, 14, 15, 16, 17, 11, 18, 19, 20, 21]] := ⟨⟩
  have hll : l.length ≤ most := by have := h.len; rwa [List.length_map] at this
  refine go ?_
  refine ⟨?_, by simp⟩ <;> intros
  refine loop (fun k => k ≤ l.length) (fun k => [(0, .slice A l.length c), (1, .int .i64 (most : Int)), (2, .func (.func 246) #[] #[]), (9, .slice A l.length c), (10, .int .i64 (l.length : Int)), (11, .int .i64 (k : Int))]) (fun k => P :: Rs) (fun k => l.length - k) 0 (Nat.zero_le _) fun k h1 => ?_
  by_cases hk : k < l.length
  · obtain ⟨x, hx⟩ : ∃ x, l[k]? = some x := ⟨_, List.getElem?_eq_getElem hk⟩
    have hid := h.id (x.1.out) (List.mem_map.2 ⟨x, List.mem_of_getElem? hx, rfl⟩)
    have F1 := key_rc x
    have F2 := id_yes (x.1.out) hid
    by_cases h0 : k = 0
    · subst h0
      refine go ?_
      (repeat' (first | exact trivial | apply And.intro | intro _))
      all_goals exact rnd 1 hk (by omega)
    · obtain ⟨y, hy⟩ : ∃ y, l[k - 1]? = some y := ⟨_, List.getElem?_eq_getElem (by omega)⟩
      have hlt := h.up (k - 1) ((fun x : Rcp × PA => x.1.out) y) (x.1.out) (by rw [List.getElem?_map, hy]; rfl) (by rw [show k - 1 + 1 = k from by omega, List.getElem?_map, hx]; rfl)
      have hy2 : l[((k : Int) - 1).toNat]? = some y := by rw [show ((k : Int) - 1).toNat = k - 1 from by omega]; exact hy
      have F3 := key_rc y
      simp only at hlt
      refine go ?_
      (repeat' (first | exact trivial | apply And.intro | intro _))
      all_goals first
        | (exfalso; omega)
        | exact rnd (k + 1) hk (by omega)
  · refine go ?_
    refine ⟨?_, by simp⟩ <;> intros
    rw [decide_eq_true (by omega)]
theorem rise_qu (l : List (Qst)) (A : Option Addr) (c : Nat) (most : Nat) (h : Ri (l.map fun x => x.id) most) (hm : most ≤ 1000) (P : HProp) (hP : Reads P (Xq) A l) :
    Trip Tryz.prog 247 [.slice A l.length c, .int .i64 (most : Int), .func (.func 248) #[] #[]] [P] (fun v Ps => v = .bool true ∧ Ps = [P]) := by
  refine Trip.of (m := 43) Tryz.func247 rfl rfl rfl ?_
  intro o Rs
  simp only [List.cons_append, List.nil_append, enumFrom]
  haveI : Plans 4 [17] [2, 3, 11, 17, 18] [[0, 1, 2, 3, 4, 5, 6, 7, 8, 9, 10, 12, 13, 14, 15, 16, 11, 17, 18, 19, 20, 21], [0, 1, 2, 3, 4, 5, 6, 7, 8, 9, 10, 12, 13, 14, 15, 16, 17, 11, 18, 19, 20, 21]] := ⟨⟩
  have hll : l.length ≤ most := by have := h.len; rwa [List.length_map] at this
  refine go ?_
  refine ⟨?_, by simp⟩ <;> intros
  refine loop (fun k => k ≤ l.length) (fun k => [(0, .slice A l.length c), (1, .int .i64 (most : Int)), (2, .func (.func 248) #[] #[]), (9, .slice A l.length c), (10, .int .i64 (l.length : Int)), (11, .int .i64 (k : Int))]) (fun k => P :: Rs) (fun k => l.length - k) 0 (Nat.zero_le _) fun k h1 => ?_
  by_cases hk : k < l.length
  · obtain ⟨x, hx⟩ : ∃ x, l[k]? = some x := ⟨_, List.getElem?_eq_getElem hk⟩
    have hid := h.id (x.id) (List.mem_map.2 ⟨x, List.mem_of_getElem? hx, rfl⟩)
    have F1 := key_qu x
    have F2 := id_yes (x.id) hid
    by_cases h0 : k = 0
    · subst h0
      refine go ?_
      (repeat' (first | exact trivial | apply And.intro | intro _))
      all_goals exact rnd 1 hk (by omega)
    · obtain ⟨y, hy⟩ : ∃ y, l[k - 1]? = some y := ⟨_, List.getElem?_eq_getElem (by omega)⟩
      have hlt := h.up (k - 1) ((fun x : Qst => x.id) y) (x.id) (by rw [List.getElem?_map, hy]; rfl) (by rw [show k - 1 + 1 = k from by omega, List.getElem?_map, hx]; rfl)
      have hy2 : l[((k : Int) - 1).toNat]? = some y := by rw [show ((k : Int) - 1).toNat = k - 1 from by omega]; exact hy
      have F3 := key_qu y
      simp only at hlt
      refine go ?_
      (repeat' (first | exact trivial | apply And.intro | intro _))
      all_goals first
        | (exfalso; omega)
        | exact rnd (k + 1) hk (by omega)
  · refine go ?_
    refine ⟨?_, by simp⟩ <;> intros
    rw [decide_eq_true (by omega)]
theorem rise_sh (l : List (Shp × PA)) (A : Option Addr) (c : Nat) (most : Nat) (h : Ri (l.map fun x => x.1.room) most) (hm : most ≤ 1000) (P : HProp) (hP : Reads P (Xs) A l) :
    Trip Tryz.prog 249 [.slice A l.length c, .int .i64 (most : Int), .func (.func 250) #[] #[]] [P] (fun v Ps => v = .bool true ∧ Ps = [P]) := by
  refine Trip.of (m := 43) Tryz.func249 rfl rfl rfl ?_
  intro o Rs
  simp only [List.cons_append, List.nil_append, enumFrom]
  haveI : Plans 4 [17] [2, 3, 11, 17, 18] [[0, 1, 2, 3, 4, 5, 6, 7, 8, 9, 10, 12, 13, 14, 15, 16, 11, 17, 18, 19, 20, 21], [0, 1, 2, 3, 4, 5, 6, 7, 8, 9, 10, 12, 13, 14, 15, 16, 17, 11, 18, 19, 20, 21]] := ⟨⟩
  have hll : l.length ≤ most := by have := h.len; rwa [List.length_map] at this
  refine go ?_
  refine ⟨?_, by simp⟩ <;> intros
  refine loop (fun k => k ≤ l.length) (fun k => [(0, .slice A l.length c), (1, .int .i64 (most : Int)), (2, .func (.func 250) #[] #[]), (9, .slice A l.length c), (10, .int .i64 (l.length : Int)), (11, .int .i64 (k : Int))]) (fun k => P :: Rs) (fun k => l.length - k) 0 (Nat.zero_le _) fun k h1 => ?_
  by_cases hk : k < l.length
  · obtain ⟨x, hx⟩ : ∃ x, l[k]? = some x := ⟨_, List.getElem?_eq_getElem hk⟩
    have hid := h.id (x.1.room) (List.mem_map.2 ⟨x, List.mem_of_getElem? hx, rfl⟩)
    have F1 := key_sh x
    have F2 := id_yes (x.1.room) hid
    by_cases h0 : k = 0
    · subst h0
      refine go ?_
      (repeat' (first | exact trivial | apply And.intro | intro _))
      all_goals exact rnd 1 hk (by omega)
    · obtain ⟨y, hy⟩ : ∃ y, l[k - 1]? = some y := ⟨_, List.getElem?_eq_getElem (by omega)⟩
      have hlt := h.up (k - 1) ((fun x : Shp × PA => x.1.room) y) (x.1.room) (by rw [List.getElem?_map, hy]; rfl) (by rw [show k - 1 + 1 = k from by omega, List.getElem?_map, hx]; rfl)
      have hy2 : l[((k : Int) - 1).toNat]? = some y := by rw [show ((k : Int) - 1).toNat = k - 1 from by omega]; exact hy
      have F3 := key_sh y
      simp only at hlt
      refine go ?_
      (repeat' (first | exact trivial | apply And.intro | intro _))
      all_goals first
        | (exfalso; omega)
        | exact rnd (k + 1) hk (by omega)
  · refine go ?_
    refine ⟨?_, by simp⟩ <;> intros
    rw [decide_eq_true (by omega)]
theorem rise_in (l : List (Int)) (A : Option Addr) (c : Nat) (most : Nat) (h : Ri (l.map fun x => x) most) (hm : most ≤ 1000) (P : HProp) (hP : Reads P (E64) A l) :
    Trip Tryz.prog 283 [.slice A l.length c, .int .i64 (most : Int), .func (.func 284) #[] #[]] [P] (fun v Ps => v = .bool true ∧ Ps = [P]) := by
  refine Trip.of (m := 43) Tryz.func283 rfl rfl rfl ?_
  intro o Rs
  simp only [List.cons_append, List.nil_append, enumFrom]
  haveI : Plans 4 [] [2, 3, 11, 17, 18] [[0, 1, 2, 3, 4, 5, 6, 7, 8, 9, 10, 12, 13, 14, 15, 16, 11, 17, 18, 19, 20, 21], [0, 1, 2, 3, 4, 5, 6, 7, 8, 9, 10, 12, 13, 14, 15, 16, 17, 11, 18, 19, 20, 21]] := ⟨⟩
  have hll : l.length ≤ most := by have := h.len; rwa [List.length_map] at this
  refine go ?_
  refine ⟨?_, by simp⟩ <;> intros
  refine loop (fun k => k ≤ l.length) (fun k => [(0, .slice A l.length c), (1, .int .i64 (most : Int)), (2, .func (.func 284) #[] #[]), (9, .slice A l.length c), (10, .int .i64 (l.length : Int)), (11, .int .i64 (k : Int))]) (fun k => P :: Rs) (fun k => l.length - k) 0 (Nat.zero_le _) fun k h1 => ?_
  by_cases hk : k < l.length
  · obtain ⟨x, hx⟩ : ∃ x, l[k]? = some x := ⟨_, List.getElem?_eq_getElem hk⟩
    have hid := h.id (x) (List.mem_map.2 ⟨x, List.mem_of_getElem? hx, rfl⟩)
    have F1 := key_in x
    have F2 := id_yes (x) hid
    by_cases h0 : k = 0
    · subst h0
      refine go ?_
      (repeat' (first | exact trivial | apply And.intro | intro _))
      all_goals exact rnd 1 hk (by omega)
    · obtain ⟨y, hy⟩ : ∃ y, l[k - 1]? = some y := ⟨_, List.getElem?_eq_getElem (by omega)⟩
      have hlt := h.up (k - 1) ((fun x : Int => x) y) (x) (by rw [List.getElem?_map, hy]; rfl) (by rw [show k - 1 + 1 = k from by omega, List.getElem?_map, hx]; rfl)
      have hy2 : l[((k : Int) - 1).toNat]? = some y := by rw [show ((k : Int) - 1).toNat = k - 1 from by omega]; exact hy
      have F3 := key_in y
      simp only at hlt
      refine go ?_
      (repeat' (first | exact trivial | apply And.intro | intro _))
      all_goals first
        | (exfalso; omega)
        | exact rnd (k + 1) hk (by omega)
  · refine go ?_
    refine ⟨?_, by simp⟩ <;> intros
    rw [decide_eq_true (by omega)]
end Go.Proofs.YtflmbhkjhfmeoaaGreat
