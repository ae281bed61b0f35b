/-
  Go's library over lists of rows: the first that meets a test, whether one does, whether all do.
-/
import Derived.Test.YtckkipangiapbaaGreatEnPure
namespace Go.Proofs.YtckkipangiapbaaGreat
open Go.SL
set_option linter.unusedVariables false
set_option linter.unusedSimpArgs false
set_option maxHeartbeats 8000000
set_option maxRecDepth 20000
theorem find_back {hs : List HProp} {A : HProp} {r : List HProp} (h : Find hs A r) : Lift (A :: r) hs := by
  induction h with
  | here => exact .refl _
  | there _ ih => exact (Lift.swap _ _ _).trans (ih.cons _)
theorem lift_app {a b : List HProp} (h : Lift a b) (Rs : List HProp) : Lift (a ++ Rs) (b ++ Rs) := by
  intro l hl
  obtain ⟨l1, l2, rfl, h1, h2⟩ := List.map_eq_append_iff.1 hl
  obtain ⟨l1', g1, g2, g3⟩ := h l1 h1
  refine ⟨l1' ++ l2, by simp [g1, h2], fun p hp => ?_, fun hp => ?_⟩
  · rcases List.mem_append.1 hp with hp | hp
    · exact (g2 p hp).imp (List.mem_append_left _) id
    · exact .inl (List.mem_append_right _ hp)
  · rw [List.pairwise_append] at hp ⊢
    refine ⟨g3 hp.1, hp.2.1, fun p hp1 q hq => ?_⟩
    rcases g2 p hp1 with h | ⟨_, h⟩
    · exact hp.2.2 p h q hq
    · show Compat p.2 q.2
      rw [h]; exact Compat.emp_left _
theorem ent_app : ∀ (Qs Rs : List HProp), Ent (Qs ++ Rs) Qs Rs
  | [], _ => .done
  | _ :: Qs, Rs => .take .here (ent_app Qs Rs)
theorem any_of {α : Type} {l : List α} {p : α → Bool} : decide ((0 : Int) ≤ iv (l.findIdx? p)) = l.any p := by
  cases h : l.findIdx? p with
  | none =>
    have h2 := List.findIdx?_eq_none_iff.1 h
    rw [show l.any p = false from by simpa using h2]; rfl
  | some k =>
    obtain ⟨x, hx, hp⟩ := find_get h
    rw [show l.any p = true from List.any_eq_true.2 ⟨x, List.mem_of_getElem? hx, hp⟩]
    exact decide_eq_true (by show (0 : Int) ≤ (k : Int); omega)
theorem lift_in (X : HProp) : ∀ (Qs Rs : List HProp), Lift (X :: (Qs ++ Rs)) (Qs ++ X :: Rs)
  | [], _ => .refl _
  | Q :: Qs, Rs => (Lift.swap _ _ _).trans ((lift_in X Qs Rs).cons Q)
theorem lift_out (X : HProp) : ∀ (Qs Rs : List HProp), Lift (Qs ++ X :: Rs) (X :: (Qs ++ Rs))
  | [], _ => .refl _
  | Q :: Qs, Rs => ((lift_out X Qs Rs).cons Q).trans (Lift.swap _ _ _)
theorem lift_in2 (X Y : HProp) (Qs Rs : List HProp) : Lift (X :: Y :: (Qs ++ Rs)) (Qs ++ X :: Y :: Rs) := ((lift_in Y Qs Rs).cons X).trans (lift_in X Qs (Y :: Rs))
theorem lift_out2 (X Y : HProp) (Qs Rs : List HProp) : Lift (Qs ++ X :: Y :: Rs) (X :: Y :: (Qs ++ Rs)) := (lift_out X Qs (Y :: Rs)).trans ((lift_out Y Qs Rs).cons X)
theorem all_any {α : Type} (l : List α) (p : α → Bool) : (!(l.any fun x => !p x)) = l.all p := by
  induction l with
  | nil => rfl
  | cons x l ih => simp only [List.any_cons, List.all_cons, Bool.not_or, Bool.not_not, ih]
theorem idx_mob (l : List (Mob)) (A : Option Addr) (c : Nat) (hl : l.length ≤ 1000000) (P : HProp) (hP : Reads P (Em) A l) (fn : Nat) [hc : Callable Tryz.prog fn] (cap : List Value) (Qs r : List HProp) (hf : Find Qs P r) (p : Mob → Bool)
    (hF : ∀ x ∈ l, Trip Tryz.prog fn ([.agg (mobC x).toArray] ++ cap) Qs (fun v Ps => v = .bool (p x) ∧ Ps = Qs)) :
    Trip Tryz.prog 179 [.slice A l.length c, .func (.func fn) #[] cap.toArray] Qs (fun v Ps => v = .int .i64 (iv (l.findIdx? p)) ∧ Ps = Qs) := by
  refine Trip.of (m := 19) Tryz.func179 rfl rfl rfl ?_
  intro o Rs
  simp only [List.cons_append, List.nil_append, enumFrom]
  refine C.lift (lift_app hf.lift Rs) ?_
  rw [List.cons_append]
  generalize hT : r ++ Rs = T
  refine go ?_
  refine ⟨?_, by simp⟩ <;> intros
  refine loop (fun k => k ≤ l.length ∧ (l.take k).findIdx? p = none) (fun k => [(0, .slice A l.length c), (1, .func (.func fn) #[] cap.toArray), (7, .int .i64 (l.length : Int)), (8, .int .i64 (k : Int))]) (fun k => P :: T) (fun k => l.length - k) 0 ⟨Nat.zero_le _, find_zero⟩ fun k ⟨h1, h2⟩ => ?_
  by_cases hk : k < l.length
  · obtain ⟨x, hx⟩ : ∃ x, l[k]? = some x := ⟨_, List.getElem?_eq_getElem hk⟩
    have F1 := hF x (List.mem_of_getElem? hx)
    refine go ?_
    refine ⟨?_, by simp⟩ <;> intros
    refine W.lift (hs' := Qs ++ Rs) (by subst hT; exact lift_app (find_back hf) Rs) ?_
    refine W.callv rfl rfl rfl (ent_app Qs Rs) rfl .nil F1 ?_
    rintro _ Ps ⟨rfl, e⟩
    rw [e]
    refine W.lift (hs' := P :: T) (by subst hT; exact lift_app hf.lift Rs) ?_
    cases hp : p x
    · refine go ?_
      refine ⟨?_, by simp⟩ <;> intros
      exact rnd (k + 1) ⟨hk, find_miss h2 hx hp⟩ (by omega)
    · have hfi := find_hit h2 hx hp
      refine go ?_
      refine ⟨?_, by simp⟩ <;> intros
      refine E.lift (hs' := Qs ++ Rs) (by subst hT; exact lift_app (find_back hf) Rs) ?_
      exact ret1 ⟨by rw [hfi], rfl⟩ (hh := ent_app Qs Rs)
  · have hfi := find_end h2 hk
    refine go ?_
    refine ⟨?_, by simp⟩ <;> intros
    refine E.lift (hs' := Qs ++ Rs) (by subst hT; exact lift_app (find_back hf) Rs) ?_
    exact ret1 ⟨by rw [hfi], rfl⟩ (hh := ent_app Qs Rs)
theorem idx_thg (l : List (Thg)) (A : Option Addr) (c : Nat) (hl : l.length ≤ 1000000) (P : HProp) (hP : Reads P (Et) A l) (fn : Nat) [hc : Callable Tryz.prog fn] (cap : List Value) (Qs r : List HProp) (hf : Find Qs P r) (p : Thg → Bool)
    (hF : ∀ x ∈ l, Trip Tryz.prog fn ([.agg (thgC x).toArray] ++ cap) Qs (fun v Ps => v = .bool (p x) ∧ Ps = Qs)) :
    Trip Tryz.prog 52 [.slice A l.length c, .func (.func fn) #[] cap.toArray] Qs (fun v Ps => v = .int .i64 (iv (l.findIdx? p)) ∧ Ps = Qs) := by
  refine Trip.of (m := 19) Tryz.func52 rfl rfl rfl ?_
  intro o Rs
  simp only [List.cons_append, List.nil_append, enumFrom]
  refine C.lift (lift_app hf.lift Rs) ?_
  rw [List.cons_append]
  generalize hT : r ++ Rs = T
  refine go ?_
  refine ⟨?_, by simp⟩ <;> intros
  refine loop (fun k => k ≤ l.length ∧ (l.take k).findIdx? p = none) (fun k => [(0, .slice A l.length c), (1, .func (.func fn) #[] cap.toArray), (7, .int .i64 (l.length : Int)), (8, .int .i64 (k : Int))]) (fun k => P :: T) (fun k => l.length - k) 0 ⟨Nat.zero_le _, find_zero⟩ fun k ⟨h1, h2⟩ => ?_
  by_cases hk : k < l.length
  · obtain ⟨x, hx⟩ : ∃ x, l[k]? = some x := ⟨_, List.getElem?_eq_getElem hk⟩
    have F1 := hF x (List.mem_of_getElem? hx)
    refine go ?_
    refine ⟨?_, by simp⟩ <;> intros
    refine W.lift (hs' := Qs ++ Rs) (by subst hT; exact lift_app (find_back hf) Rs) ?_
    refine W.callv rfl rfl rfl (ent_app Qs Rs) rfl .nil F1 ?_
    rintro _ Ps ⟨rfl, e⟩
    rw [e]
    refine W.lift (hs' := P :: T) (by subst hT; exact lift_app hf.lift Rs) ?_
    cases hp : p x
    · refine go ?_
      refine ⟨?_, by simp⟩ <;> intros
      exact rnd (k + 1) ⟨hk, find_miss h2 hx hp⟩ (by omega)
    · have hfi := find_hit h2 hx hp
      refine go ?_
      refine ⟨?_, by simp⟩ <;> intros
      refine E.lift (hs' := Qs ++ Rs) (by subst hT; exact lift_app (find_back hf) Rs) ?_
      exact ret1 ⟨by rw [hfi], rfl⟩ (hh := ent_app Qs Rs)
  · have hfi := find_end h2 hk
    refine go ?_
    refine ⟨?_, by simp⟩ <;> intros
    refine E.lift (hs' := Qs ++ Rs) (by subst hT; exact lift_app (find_back hf) Rs) ?_
    exact ret1 ⟨by rw [hfi], rfl⟩ (hh := ent_app Qs Rs)
theorem idx_lot (l : List (Lot)) (A : Option Addr) (c : Nat) (hl : l.length ≤ 1000000) (P : HProp) (hP : Reads P (El) A l) (fn : Nat) [hc : Callable Tryz.prog fn] (cap : List Value) (Qs r : List HProp) (hf : Find Qs P r) (p : Lot → Bool)
    (hF : ∀ x ∈ l, Trip Tryz.prog fn ([.agg (lotC x).toArray] ++ cap) Qs (fun v Ps => v = .bool (p x) ∧ Ps = Qs)) :
    Trip Tryz.prog 184 [.slice A l.length c, .func (.func fn) #[] cap.toArray] Qs (fun v Ps => v = .int .i64 (iv (l.findIdx? p)) ∧ Ps = Qs) := by
  refine Trip.of (m := 19) Tryz.func184 rfl rfl rfl ?_
  intro o Rs
  simp only [List.cons_append, List.nil_append, enumFrom]
  refine C.lift (lift_app hf.lift Rs) ?_
  rw [List.cons_append]
  generalize hT : r ++ Rs = T
  refine go ?_
  refine ⟨?_, by simp⟩ <;> intros
  refine loop (fun k => k ≤ l.length ∧ (l.take k).findIdx? p = none) (fun k => [(0, .slice A l.length c), (1, .func (.func fn) #[] cap.toArray), (7, .int .i64 (l.length : Int)), (8, .int .i64 (k : Int))]) (fun k => P :: T) (fun k => l.length - k) 0 ⟨Nat.zero_le _, find_zero⟩ fun k ⟨h1, h2⟩ => ?_
  by_cases hk : k < l.length
  · obtain ⟨x, hx⟩ : ∃ x, l[k]? = some x := ⟨_, List.getElem?_eq_getElem hk⟩
    have F1 := hF x (List.mem_of_getElem? hx)
    refine go ?_
    refine ⟨?_, by simp⟩ <;> intros
    refine W.lift (hs' := Qs ++ Rs) (by subst hT; exact lift_app (find_back hf) Rs) ?_
    refine W.callv rfl rfl rfl (ent_app Qs Rs) rfl .nil F1 ?_
    rintro _ Ps ⟨rfl, e⟩
    rw [e]
    refine W.lift (hs' := P :: T) (by subst hT; exact lift_app hf.lift Rs) ?_
    cases hp : p x
    · refine go ?_
      refine ⟨?_, by simp⟩ <;> intros
      exact rnd (k + 1) ⟨hk, find_miss h2 hx hp⟩ (by omega)
    · have hfi := find_hit h2 hx hp
      refine go ?_
      refine ⟨?_, by simp⟩ <;> intros
      refine E.lift (hs' := Qs ++ Rs) (by subst hT; exact lift_app (find_back hf) Rs) ?_
      exact ret1 ⟨by rw [hfi], rfl⟩ (hh := ent_app Qs Rs)
  · have hfi := find_end h2 hk
    refine go ?_
    refine ⟨?_, by simp⟩ <;> intros
    refine E.lift (hs' := Qs ++ Rs) (by subst hT; exact lift_app (find_back hf) Rs) ?_
    exact ret1 ⟨by rw [hfi], rfl⟩ (hh := ent_app Qs Rs)
theorem idx_chr (l : List (Chr × PA)) (A : Option Addr) (c : Nat) (hl : l.length ≤ 1000000) (P : HProp) (hP : Reads P (Ec) A l) (fn : Nat) [hc : Callable Tryz.prog fn] (cap : List Value) (Qs r : List HProp) (hf : Find Qs P r) (p : Chr × PA → Bool)
    (hF : ∀ x ∈ l, Trip Tryz.prog fn ([.agg (chrC x.1 x.2).toArray] ++ cap) Qs (fun v Ps => v = .bool (p x) ∧ Ps = Qs)) :
    Trip Tryz.prog 60 [.slice A l.length c, .func (.func fn) #[] cap.toArray] Qs (fun v Ps => v = .int .i64 (iv (l.findIdx? p)) ∧ Ps = Qs) := by
  refine Trip.of (m := 19) Tryz.func60 rfl rfl rfl ?_
  intro o Rs
  simp only [List.cons_append, List.nil_append, enumFrom]
  refine C.lift (lift_app hf.lift Rs) ?_
  rw [List.cons_append]
  generalize hT : r ++ Rs = T
  refine go ?_
  refine ⟨?_, by simp⟩ <;> intros
  refine loop (fun k => k ≤ l.length ∧ (l.take k).findIdx? p = none) (fun k => [(0, .slice A l.length c), (1, .func (.func fn) #[] cap.toArray), (7, .int .i64 (l.length : Int)), (8, .int .i64 (k : Int))]) (fun k => P :: T) (fun k => l.length - k) 0 ⟨Nat.zero_le _, find_zero⟩ fun k ⟨h1, h2⟩ => ?_
  by_cases hk : k < l.length
  · obtain ⟨x, hx⟩ : ∃ x, l[k]? = some x := ⟨_, List.getElem?_eq_getElem hk⟩
    have F1 := hF x (List.mem_of_getElem? hx)
    refine go ?_
    refine ⟨?_, by simp⟩ <;> intros
    refine W.lift (hs' := Qs ++ Rs) (by subst hT; exact lift_app (find_back hf) Rs) ?_
    refine W.callv rfl rfl rfl (ent_app Qs Rs) rfl .nil F1 ?_
    rintro _ Ps ⟨rfl, e⟩
    rw [e]
    refine W.lift (hs' := P :: T) (by subst hT; exact lift_app hf.lift Rs) ?_
    cases hp : p x
    · refine go ?_
      refine ⟨?_, by simp⟩ <;> intros
      exact rnd (k + 1) ⟨hk, find_miss h2 hx hp⟩ (by omega)
    · have hfi := find_hit h2 hx hp
      refine go ?_
      refine ⟨?_, by simp⟩ <;> intros
      refine E.lift (hs' := Qs ++ Rs) (by subst hT; exact lift_app (find_back hf) Rs) ?_
      exact ret1 ⟨by rw [hfi], rfl⟩ (hh := ent_app Qs Rs)
  · have hfi := find_end h2 hk
    refine go ?_
    refine ⟨?_, by simp⟩ <;> intros
    refine E.lift (hs' := Qs ++ Rs) (by subst hT; exact lift_app (find_back hf) Rs) ?_
    exact ret1 ⟨by rw [hfi], rfl⟩ (hh := ent_app Qs Rs)
theorem idx_hse (l : List (Hse × PA)) (A : Option Addr) (c : Nat) (hl : l.length ≤ 1000000) (P : HProp) (hP : Reads P (Eh) A l) (fn : Nat) [hc : Callable Tryz.prog fn] (cap : List Value) (Qs r : List HProp) (hf : Find Qs P r) (p : Hse × PA → Bool)
    (hF : ∀ x ∈ l, Trip Tryz.prog fn ([.agg (hseC x.1 x.2).toArray] ++ cap) Qs (fun v Ps => v = .bool (p x) ∧ Ps = Qs)) :
    Trip Tryz.prog 183 [.slice A l.length c, .func (.func fn) #[] cap.toArray] Qs (fun v Ps => v = .int .i64 (iv (l.findIdx? p)) ∧ Ps = Qs) := by
  refine Trip.of (m := 19) Tryz.func183 rfl rfl rfl ?_
  intro o Rs
  simp only [List.cons_append, List.nil_append, enumFrom]
  refine C.lift (lift_app hf.lift Rs) ?_
  rw [List.cons_append]
  generalize hT : r ++ Rs = T
  refine go ?_
  refine ⟨?_, by simp⟩ <;> intros
  refine loop (fun k => k ≤ l.length ∧ (l.take k).findIdx? p = none) (fun k => [(0, .slice A l.length c), (1, .func (.func fn) #[] cap.toArray), (7, .int .i64 (l.length : Int)), (8, .int .i64 (k : Int))]) (fun k => P :: T) (fun k => l.length - k) 0 ⟨Nat.zero_le _, find_zero⟩ fun k ⟨h1, h2⟩ => ?_
  by_cases hk : k < l.length
  · obtain ⟨x, hx⟩ : ∃ x, l[k]? = some x := ⟨_, List.getElem?_eq_getElem hk⟩
    have F1 := hF x (List.mem_of_getElem? hx)
    refine go ?_
    refine ⟨?_, by simp⟩ <;> intros
    refine W.lift (hs' := Qs ++ Rs) (by subst hT; exact lift_app (find_back hf) Rs) ?_
    refine W.callv rfl rfl rfl (ent_app Qs Rs) rfl .nil F1 ?_
    rintro _ Ps ⟨rfl, e⟩
    rw [e]
    refine W.lift (hs' := P :: T) (by subst hT; exact lift_app hf.lift Rs) ?_
    cases hp : p x
    · refine go ?_
      refine ⟨?_, by simp⟩ <;> intros
      exact rnd (k + 1) ⟨hk, find_miss h2 hx hp⟩ (by omega)
    · have hfi := find_hit h2 hx hp
      refine go ?_
      refine ⟨?_, by simp⟩ <;> intros
      refine E.lift (hs' := Qs ++ Rs) (by subst hT; exact lift_app (find_back hf) Rs) ?_
      exact ret1 ⟨by rw [hfi], rfl⟩ (hh := ent_app Qs Rs)
  · have hfi := find_end h2 hk
    refine go ?_
    refine ⟨?_, by simp⟩ <;> intros
    refine E.lift (hs' := Qs ++ Rs) (by subst hT; exact lift_app (find_back hf) Rs) ?_
    exact ret1 ⟨by rw [hfi], rfl⟩ (hh := ent_app Qs Rs)
theorem idx_int (l : List (Int)) (A : Option Addr) (c : Nat) (hl : l.length ≤ 1000000) (P : HProp) (hP : Reads P (E64) A l) (fn : Nat) [hc : Callable Tryz.prog fn] (cap : List Value) (Qs r : List HProp) (hf : Find Qs P r) (p : Int → Bool)
    (hF : ∀ x ∈ l, Trip Tryz.prog fn ([.int .i64 x] ++ cap) Qs (fun v Ps => v = .bool (p x) ∧ Ps = Qs)) :
    Trip Tryz.prog 225 [.slice A l.length c, .func (.func fn) #[] cap.toArray] Qs (fun v Ps => v = .int .i64 (iv (l.findIdx? p)) ∧ Ps = Qs) := by
  refine Trip.of (m := 19) Tryz.func225 rfl rfl rfl ?_
  intro o Rs
  simp only [List.cons_append, List.nil_append, enumFrom]
  refine C.lift (lift_app hf.lift Rs) ?_
  rw [List.cons_append]
  generalize hT : r ++ Rs = T
  refine go ?_
  refine ⟨?_, by simp⟩ <;> intros
  refine loop (fun k => k ≤ l.length ∧ (l.take k).findIdx? p = none) (fun k => [(0, .slice A l.length c), (1, .func (.func fn) #[] cap.toArray), (7, .int .i64 (l.length : Int)), (8, .int .i64 (k : Int))]) (fun k => P :: T) (fun k => l.length - k) 0 ⟨Nat.zero_le _, find_zero⟩ fun k ⟨h1, h2⟩ => ?_
  by_cases hk : k < l.length
  · obtain ⟨x, hx⟩ : ∃ x, l[k]? = some x := ⟨_, List.getElem?_eq_getElem hk⟩
    have F1 := hF x (List.mem_of_getElem? hx)
    refine go ?_
    refine ⟨?_, by simp⟩ <;> intros
    refine W.lift (hs' := Qs ++ Rs) (by subst hT; exact lift_app (find_back hf) Rs) ?_
    refine W.callv rfl rfl rfl (ent_app Qs Rs) rfl .nil F1 ?_
    rintro _ Ps ⟨rfl, e⟩
    rw [e]
    refine W.lift (hs' := P :: T) (by subst hT; exact lift_app hf.lift Rs) ?_
    cases hp : p x
    · refine go ?_
      refine ⟨?_, by simp⟩ <;> intros
      exact rnd (k + 1) ⟨hk, find_miss h2 hx hp⟩ (by omega)
    · have hfi := find_hit h2 hx hp
      refine go ?_
      refine ⟨?_, by simp⟩ <;> intros
      refine E.lift (hs' := Qs ++ Rs) (by subst hT; exact lift_app (find_back hf) Rs) ?_
      exact ret1 ⟨by rw [hfi], rfl⟩ (hh := ent_app Qs Rs)
  · have hfi := find_end h2 hk
    refine go ?_
    refine ⟨?_, by simp⟩ <;> intros
    refine E.lift (hs' := Qs ++ Rs) (by subst hT; exact lift_app (find_back hf) Rs) ?_
    exact ret1 ⟨by rw [hfi], rfl⟩ (hh := ent_app Qs Rs)
theorem ct_mob (l : List (Mob)) (A : Option Addr) (c : Nat) (hl : l.length ≤ 1000000) (P : HProp) (hP : Reads P (Em) A l) (fn : Nat) [hc : Callable Tryz.prog fn] (cap : List Value) (Qs r : List HProp) (hf : Find Qs P r) (p : Mob → Bool)
    (hF : ∀ x ∈ l, Trip Tryz.prog fn ([.agg (mobC x).toArray] ++ cap) Qs (fun v Ps => v = .bool (p x) ∧ Ps = Qs)) :
    Trip Tryz.prog 125 [.slice A l.length c, .func (.func fn) #[] cap.toArray] Qs (fun v Ps => v = .bool (l.any p) ∧ Ps = Qs) := by
  refine Trip.of (m := 9) Tryz.func125 rfl rfl rfl ?_
  intro o Rs
  simp only [List.cons_append, List.nil_append, enumFrom]
  have F1 := idx_mob l A c hl P hP fn cap Qs r hf p hF
  refine go ?_
  refine ⟨?_, by simp⟩ <;> intros
  refine W.callp rfl (ent_app Qs Rs) rfl .nil F1 ?_
  rintro _ rfl
  refine go ?_
  refine ⟨?_, by simp⟩ <;> intros
  exact ret1 ⟨congrArg Value.bool any_of, rfl⟩ (hh := ent_app Qs Rs)
theorem ct_thg (l : List (Thg)) (A : Option Addr) (c : Nat) (hl : l.length ≤ 1000000) (P : HProp) (hP : Reads P (Et) A l) (fn : Nat) [hc : Callable Tryz.prog fn] (cap : List Value) (Qs r : List HProp) (hf : Find Qs P r) (p : Thg → Bool)
    (hF : ∀ x ∈ l, Trip Tryz.prog fn ([.agg (thgC x).toArray] ++ cap) Qs (fun v Ps => v = .bool (p x) ∧ Ps = Qs)) :
    Trip Tryz.prog 121 [.slice A l.length c, .func (.func fn) #[] cap.toArray] Qs (fun v Ps => v = .bool (l.any p) ∧ Ps = Qs) := by
  refine Trip.of (m := 9) Tryz.func121 rfl rfl rfl ?_
  intro o Rs
  simp only [List.cons_append, List.nil_append, enumFrom]
  have F1 := idx_thg l A c hl P hP fn cap Qs r hf p hF
  refine go ?_
  refine ⟨?_, by simp⟩ <;> intros
  refine W.callp rfl (ent_app Qs Rs) rfl .nil F1 ?_
  rintro _ rfl
  refine go ?_
  refine ⟨?_, by simp⟩ <;> intros
  exact ret1 ⟨congrArg Value.bool any_of, rfl⟩ (hh := ent_app Qs Rs)
theorem ct_lot (l : List (Lot)) (A : Option Addr) (c : Nat) (hl : l.length ≤ 1000000) (P : HProp) (hP : Reads P (El) A l) (fn : Nat) [hc : Callable Tryz.prog fn] (cap : List Value) (Qs r : List HProp) (hf : Find Qs P r) (p : Lot → Bool)
    (hF : ∀ x ∈ l, Trip Tryz.prog fn ([.agg (lotC x).toArray] ++ cap) Qs (fun v Ps => v = .bool (p x) ∧ Ps = Qs)) :
    Trip Tryz.prog 143 [.slice A l.length c, .func (.func fn) #[] cap.toArray] Qs (fun v Ps => v = .bool (l.any p) ∧ Ps = Qs) := by
  refine Trip.of (m := 9) Tryz.func143 rfl rfl rfl ?_
  intro o Rs
  simp only [List.cons_append, List.nil_append, enumFrom]
  have F1 := idx_lot l A c hl P hP fn cap Qs r hf p hF
  refine go ?_
  refine ⟨?_, by simp⟩ <;> intros
  refine W.callp rfl (ent_app Qs Rs) rfl .nil F1 ?_
  rintro _ rfl
  refine go ?_
  refine ⟨?_, by simp⟩ <;> intros
  exact ret1 ⟨congrArg Value.bool any_of, rfl⟩ (hh := ent_app Qs Rs)
theorem ct_chr (l : List (Chr × PA)) (A : Option Addr) (c : Nat) (hl : l.length ≤ 1000000) (P : HProp) (hP : Reads P (Ec) A l) (fn : Nat) [hc : Callable Tryz.prog fn] (cap : List Value) (Qs r : List HProp) (hf : Find Qs P r) (p : Chr × PA → Bool)
    (hF : ∀ x ∈ l, Trip Tryz.prog fn ([.agg (chrC x.1 x.2).toArray] ++ cap) Qs (fun v Ps => v = .bool (p x) ∧ Ps = Qs)) :
    Trip Tryz.prog 128 [.slice A l.length c, .func (.func fn) #[] cap.toArray] Qs (fun v Ps => v = .bool (l.any p) ∧ Ps = Qs) := by
  refine Trip.of (m := 9) Tryz.func128 rfl rfl rfl ?_
  intro o Rs
  simp only [List.cons_append, List.nil_append, enumFrom]
  have F1 := idx_chr l A c hl P hP fn cap Qs r hf p hF
  refine go ?_
  refine ⟨?_, by simp⟩ <;> intros
  refine W.callp rfl (ent_app Qs Rs) rfl .nil F1 ?_
  rintro _ rfl
  refine go ?_
  refine ⟨?_, by simp⟩ <;> intros
  exact ret1 ⟨congrArg Value.bool any_of, rfl⟩ (hh := ent_app Qs Rs)
theorem ct_hse (l : List (Hse × PA)) (A : Option Addr) (c : Nat) (hl : l.length ≤ 1000000) (P : HProp) (hP : Reads P (Eh) A l) (fn : Nat) [hc : Callable Tryz.prog fn] (cap : List Value) (Qs r : List HProp) (hf : Find Qs P r) (p : Hse × PA → Bool)
    (hF : ∀ x ∈ l, Trip Tryz.prog fn ([.agg (hseC x.1 x.2).toArray] ++ cap) Qs (fun v Ps => v = .bool (p x) ∧ Ps = Qs)) :
    Trip Tryz.prog 139 [.slice A l.length c, .func (.func fn) #[] cap.toArray] Qs (fun v Ps => v = .bool (l.any p) ∧ Ps = Qs) := by
  refine Trip.of (m := 9) Tryz.func139 rfl rfl rfl ?_
  intro o Rs
  simp only [List.cons_append, List.nil_append, enumFrom]
  have F1 := idx_hse l A c hl P hP fn cap Qs r hf p hF
  refine go ?_
  refine ⟨?_, by simp⟩ <;> intros
  refine W.callp rfl (ent_app Qs Rs) rfl .nil F1 ?_
  rintro _ rfl
  refine go ?_
  refine ⟨?_, by simp⟩ <;> intros
  exact ret1 ⟨congrArg Value.bool any_of, rfl⟩ (hh := ent_app Qs Rs)
theorem ct_int (l : List (Int)) (A : Option Addr) (c : Nat) (hl : l.length ≤ 1000000) (P : HProp) (hP : Reads P (E64) A l) (fn : Nat) [hc : Callable Tryz.prog fn] (cap : List Value) (Qs r : List HProp) (hf : Find Qs P r) (p : Int → Bool)
    (hF : ∀ x ∈ l, Trip Tryz.prog fn ([.int .i64 x] ++ cap) Qs (fun v Ps => v = .bool (p x) ∧ Ps = Qs)) :
    Trip Tryz.prog 188 [.slice A l.length c, .func (.func fn) #[] cap.toArray] Qs (fun v Ps => v = .bool (l.any p) ∧ Ps = Qs) := by
  refine Trip.of (m := 9) Tryz.func188 rfl rfl rfl ?_
  intro o Rs
  simp only [List.cons_append, List.nil_append, enumFrom]
  have F1 := idx_int l A c hl P hP fn cap Qs r hf p hF
  refine go ?_
  refine ⟨?_, by simp⟩ <;> intros
  refine W.callp rfl (ent_app Qs Rs) rfl .nil F1 ?_
  rintro _ rfl
  refine go ?_
  refine ⟨?_, by simp⟩ <;> intros
  exact ret1 ⟨congrArg Value.bool any_of, rfl⟩ (hh := ent_app Qs Rs)
theorem all1_mob (x : Mob) (fn : Nat) [hc : Callable Tryz.prog fn] (cap : List Value) (Qs : List HProp) (p : Mob → Bool) (b : Nat) (h : Trip Tryz.prog fn ([.agg (mobC x).toArray] ++ cap) Qs (fun v Ps => v = .bool (p x) ∧ Ps = Qs)) :
    Trip Tryz.prog 126 ([.agg (mobC x).toArray] ++ [.pointer (some ⟨b, 0, none⟩)]) (blk b 122 [.func (.func fn) #[] cap.toArray] :: Qs) (fun v Ps => v = .bool (!p x) ∧ Ps = blk b 122 [.func (.func fn) #[] cap.toArray] :: Qs) := by
  refine Trip.of (m := 8) Tryz.func126 rfl rfl rfl ?_
  intro o Rs
  simp only [List.cons_append, List.nil_append, enumFrom]
  refine go ?_
  refine ⟨?_, by simp⟩ <;> intros
  refine W.lift (lift_in2 _ _ Qs Rs) ?_
  refine W.callv rfl rfl rfl (ent_app Qs _) rfl .nil h ?_
  rintro _ Ps ⟨rfl, e⟩
  rw [e]
  refine W.lift (lift_out2 _ _ Qs Rs) ?_
  refine go ?_
  refine ⟨?_, by simp⟩ <;> intros
  exact ret1 ⟨rfl, rfl⟩ (hh := .drop (.take .here (ent_app _ _)))
theorem all_mob (l : List (Mob)) (A : Option Addr) (c : Nat) (hl : l.length ≤ 1000000) (P : HProp) (hP : Reads P (Em) A l) (fn : Nat) [hc : Callable Tryz.prog fn] (cap : List Value) (Qs r : List HProp) (hf : Find Qs P r) (p : Mob → Bool)
    (hF : ∀ x ∈ l, Trip Tryz.prog fn ([.agg (mobC x).toArray] ++ cap) Qs (fun v Ps => v = .bool (p x) ∧ Ps = Qs)) :
    Trip Tryz.prog 74 [.slice A l.length c, .func (.func fn) #[] cap.toArray] Qs (fun v Ps => v = .bool (l.all p) ∧ Ps = Qs) := by
  refine Trip.of (m := 9) Tryz.func74 rfl rfl rfl ?_
  intro o Rs
  simp only [List.cons_append, List.nil_append, enumFrom]
  refine go ?_
  refine ⟨?_, by simp⟩ <;> intros
  rename_i b
  have F1 := ct_mob l A c hl P hP 126 [.pointer (some ⟨b, 0, none⟩)] (blk b 122 [.func (.func fn) #[] cap.toArray] :: Qs) (blk b 122 [.func (.func fn) #[] cap.toArray] :: r) (.there hf) (fun x => !p x) (fun x hx => all1_mob x fn cap Qs p b (hF x hx))
  refine W.callp rfl (ent_app (_ :: Qs) Rs) rfl .nil F1 ?_
  rintro _ rfl
  refine go ?_
  refine ⟨?_, by simp⟩ <;> intros
  exact ret1 ⟨by rw [← all_any], rfl⟩ (hh := .drop (ent_app Qs Rs))
theorem all1_thg (x : Thg) (fn : Nat) [hc : Callable Tryz.prog fn] (cap : List Value) (Qs : List HProp) (p : Thg → Bool) (b : Nat) (h : Trip Tryz.prog fn ([.agg (thgC x).toArray] ++ cap) Qs (fun v Ps => v = .bool (p x) ∧ Ps = Qs)) :
    Trip Tryz.prog 122 ([.agg (thgC x).toArray] ++ [.pointer (some ⟨b, 0, none⟩)]) (blk b 111 [.func (.func fn) #[] cap.toArray] :: Qs) (fun v Ps => v = .bool (!p x) ∧ Ps = blk b 111 [.func (.func fn) #[] cap.toArray] :: Qs) := by
  refine Trip.of (m := 8) Tryz.func122 rfl rfl rfl ?_
  intro o Rs
  simp only [List.cons_append, List.nil_append, enumFrom]
  refine go ?_
  refine ⟨?_, by simp⟩ <;> intros
  refine W.lift (lift_in2 _ _ Qs Rs) ?_
  refine W.callv rfl rfl rfl (ent_app Qs _) rfl .nil h ?_
  rintro _ Ps ⟨rfl, e⟩
  rw [e]
  refine W.lift (lift_out2 _ _ Qs Rs) ?_
  refine go ?_
  refine ⟨?_, by simp⟩ <;> intros
  exact ret1 ⟨rfl, rfl⟩ (hh := .drop (.take .here (ent_app _ _)))
theorem all_thg (l : List (Thg)) (A : Option Addr) (c : Nat) (hl : l.length ≤ 1000000) (P : HProp) (hP : Reads P (Et) A l) (fn : Nat) [hc : Callable Tryz.prog fn] (cap : List Value) (Qs r : List HProp) (hf : Find Qs P r) (p : Thg → Bool)
    (hF : ∀ x ∈ l, Trip Tryz.prog fn ([.agg (thgC x).toArray] ++ cap) Qs (fun v Ps => v = .bool (p x) ∧ Ps = Qs)) :
    Trip Tryz.prog 71 [.slice A l.length c, .func (.func fn) #[] cap.toArray] Qs (fun v Ps => v = .bool (l.all p) ∧ Ps = Qs) := by
  refine Trip.of (m := 9) Tryz.func71 rfl rfl rfl ?_
  intro o Rs
  simp only [List.cons_append, List.nil_append, enumFrom]
  refine go ?_
  refine ⟨?_, by simp⟩ <;> intros
  rename_i b
  have F1 := ct_thg l A c hl P hP 122 [.pointer (some ⟨b, 0, none⟩)] (blk b 111 [.func (.func fn) #[] cap.toArray] :: Qs) (blk b 111 [.func (.func fn) #[] cap.toArray] :: r) (.there hf) (fun x => !p x) (fun x hx => all1_thg x fn cap Qs p b (hF x hx))
  refine W.callp rfl (ent_app (_ :: Qs) Rs) rfl .nil F1 ?_
  rintro _ rfl
  refine go ?_
  refine ⟨?_, by simp⟩ <;> intros
  exact ret1 ⟨by rw [← all_any], rfl⟩ (hh := .drop (ent_app Qs Rs))
theorem all1_lot (x : Lot) (fn : Nat) [hc : Callable Tryz.prog fn] (cap : List Value) (Qs : List HProp) (p : Lot → Bool) (b : Nat) (h : Trip Tryz.prog fn ([.agg (lotC x).toArray] ++ cap) Qs (fun v Ps => v = .bool (p x) ∧ Ps = Qs)) :
    Trip Tryz.prog 144 ([.agg (lotC x).toArray] ++ [.pointer (some ⟨b, 0, none⟩)]) (blk b 141 [.func (.func fn) #[] cap.toArray] :: Qs) (fun v Ps => v = .bool (!p x) ∧ Ps = blk b 141 [.func (.func fn) #[] cap.toArray] :: Qs) := by
  refine Trip.of (m := 8) Tryz.func144 rfl rfl rfl ?_
  intro o Rs
  simp only [List.cons_append, List.nil_append, enumFrom]
  refine go ?_
  refine ⟨?_, by simp⟩ <;> intros
  refine W.lift (lift_in2 _ _ Qs Rs) ?_
  refine W.callv rfl rfl rfl (ent_app Qs _) rfl .nil h ?_
  rintro _ Ps ⟨rfl, e⟩
  rw [e]
  refine W.lift (lift_out2 _ _ Qs Rs) ?_
  refine go ?_
  refine ⟨?_, by simp⟩ <;> intros
  exact ret1 ⟨rfl, rfl⟩ (hh := .drop (.take .here (ent_app _ _)))
theorem all_lot (l : List (Lot)) (A : Option Addr) (c : Nat) (hl : l.length ≤ 1000000) (P : HProp) (hP : Reads P (El) A l) (fn : Nat) [hc : Callable Tryz.prog fn] (cap : List Value) (Qs r : List HProp) (hf : Find Qs P r) (p : Lot → Bool)
    (hF : ∀ x ∈ l, Trip Tryz.prog fn ([.agg (lotC x).toArray] ++ cap) Qs (fun v Ps => v = .bool (p x) ∧ Ps = Qs)) :
    Trip Tryz.prog 84 [.slice A l.length c, .func (.func fn) #[] cap.toArray] Qs (fun v Ps => v = .bool (l.all p) ∧ Ps = Qs) := by
  refine Trip.of (m := 9) Tryz.func84 rfl rfl rfl ?_
  intro o Rs
  simp only [List.cons_append, List.nil_append, enumFrom]
  refine go ?_
  refine ⟨?_, by simp⟩ <;> intros
  rename_i b
  have F1 := ct_lot l A c hl P hP 144 [.pointer (some ⟨b, 0, none⟩)] (blk b 141 [.func (.func fn) #[] cap.toArray] :: Qs) (blk b 141 [.func (.func fn) #[] cap.toArray] :: r) (.there hf) (fun x => !p x) (fun x hx => all1_lot x fn cap Qs p b (hF x hx))
  refine W.callp rfl (ent_app (_ :: Qs) Rs) rfl .nil F1 ?_
  rintro _ rfl
  refine go ?_
  refine ⟨?_, by simp⟩ <;> intros
  exact ret1 ⟨by rw [← all_any], rfl⟩ (hh := .drop (ent_app Qs Rs))
theorem all1_chr (x : Chr × PA) (fn : Nat) [hc : Callable Tryz.prog fn] (cap : List Value) (Qs : List HProp) (p : Chr × PA → Bool) (b : Nat) (h : Trip Tryz.prog fn ([.agg (chrC x.1 x.2).toArray] ++ cap) Qs (fun v Ps => v = .bool (p x) ∧ Ps = Qs)) :
    Trip Tryz.prog 129 ([.agg (chrC x.1 x.2).toArray] ++ [.pointer (some ⟨b, 0, none⟩)]) (blk b 120 [.func (.func fn) #[] cap.toArray] :: Qs) (fun v Ps => v = .bool (!p x) ∧ Ps = blk b 120 [.func (.func fn) #[] cap.toArray] :: Qs) := by
  refine Trip.of (m := 8) Tryz.func129 rfl rfl rfl ?_
  intro o Rs
  simp only [List.cons_append, List.nil_append, enumFrom]
  refine go ?_
  refine ⟨?_, by simp⟩ <;> intros
  refine W.lift (lift_in2 _ _ Qs Rs) ?_
  refine W.callv rfl rfl rfl (ent_app Qs _) rfl .nil h ?_
  rintro _ Ps ⟨rfl, e⟩
  rw [e]
  refine W.lift (lift_out2 _ _ Qs Rs) ?_
  refine go ?_
  refine ⟨?_, by simp⟩ <;> intros
  exact ret1 ⟨rfl, rfl⟩ (hh := .drop (.take .here (ent_app _ _)))
theorem all_chr (l : List (Chr × PA)) (A : Option Addr) (c : Nat) (hl : l.length ≤ 1000000) (P : HProp) (hP : Reads P (Ec) A l) (fn : Nat) [hc : Callable Tryz.prog fn] (cap : List Value) (Qs r : List HProp) (hf : Find Qs P r) (p : Chr × PA → Bool)
    (hF : ∀ x ∈ l, Trip Tryz.prog fn ([.agg (chrC x.1 x.2).toArray] ++ cap) Qs (fun v Ps => v = .bool (p x) ∧ Ps = Qs)) :
    Trip Tryz.prog 78 [.slice A l.length c, .func (.func fn) #[] cap.toArray] Qs (fun v Ps => v = .bool (l.all p) ∧ Ps = Qs) := by
  refine Trip.of (m := 9) Tryz.func78 rfl rfl rfl ?_
  intro o Rs
  simp only [List.cons_append, List.nil_append, enumFrom]
  refine go ?_
  refine ⟨?_, by simp⟩ <;> intros
  rename_i b
  have F1 := ct_chr l A c hl P hP 129 [.pointer (some ⟨b, 0, none⟩)] (blk b 120 [.func (.func fn) #[] cap.toArray] :: Qs) (blk b 120 [.func (.func fn) #[] cap.toArray] :: r) (.there hf) (fun x => !p x) (fun x hx => all1_chr x fn cap Qs p b (hF x hx))
  refine W.callp rfl (ent_app (_ :: Qs) Rs) rfl .nil F1 ?_
  rintro _ rfl
  refine go ?_
  refine ⟨?_, by simp⟩ <;> intros
  exact ret1 ⟨by rw [← all_any], rfl⟩ (hh := .drop (ent_app Qs Rs))
theorem all1_hse (x : Hse × PA) (fn : Nat) [hc : Callable Tryz.prog fn] (cap : List Value) (Qs : List HProp) (p : Hse × PA → Bool) (b : Nat) (h : Trip Tryz.prog fn ([.agg (hseC x.1 x.2).toArray] ++ cap) Qs (fun v Ps => v = .bool (p x) ∧ Ps = Qs)) :
    Trip Tryz.prog 140 ([.agg (hseC x.1 x.2).toArray] ++ [.pointer (some ⟨b, 0, none⟩)]) (blk b 138 [.func (.func fn) #[] cap.toArray] :: Qs) (fun v Ps => v = .bool (!p x) ∧ Ps = blk b 138 [.func (.func fn) #[] cap.toArray] :: Qs) := by
  refine Trip.of (m := 8) Tryz.func140 rfl rfl rfl ?_
  intro o Rs
  simp only [List.cons_append, List.nil_append, enumFrom]
  refine go ?_
  refine ⟨?_, by simp⟩ <;> intros
  refine W.lift (lift_in2 _ _ Qs Rs) ?_
  refine W.callv rfl rfl rfl (ent_app Qs _) rfl .nil h ?_
  rintro _ Ps ⟨rfl, e⟩
  rw [e]
  refine W.lift (lift_out2 _ _ Qs Rs) ?_
  refine go ?_
  refine ⟨?_, by simp⟩ <;> intros
  exact ret1 ⟨rfl, rfl⟩ (hh := .drop (.take .here (ent_app _ _)))
theorem all_hse (l : List (Hse × PA)) (A : Option Addr) (c : Nat) (hl : l.length ≤ 1000000) (P : HProp) (hP : Reads P (Eh) A l) (fn : Nat) [hc : Callable Tryz.prog fn] (cap : List Value) (Qs r : List HProp) (hf : Find Qs P r) (p : Hse × PA → Bool)
    (hF : ∀ x ∈ l, Trip Tryz.prog fn ([.agg (hseC x.1 x.2).toArray] ++ cap) Qs (fun v Ps => v = .bool (p x) ∧ Ps = Qs)) :
    Trip Tryz.prog 81 [.slice A l.length c, .func (.func fn) #[] cap.toArray] Qs (fun v Ps => v = .bool (l.all p) ∧ Ps = Qs) := by
  refine Trip.of (m := 9) Tryz.func81 rfl rfl rfl ?_
  intro o Rs
  simp only [List.cons_append, List.nil_append, enumFrom]
  refine go ?_
  refine ⟨?_, by simp⟩ <;> intros
  rename_i b
  have F1 := ct_hse l A c hl P hP 140 [.pointer (some ⟨b, 0, none⟩)] (blk b 138 [.func (.func fn) #[] cap.toArray] :: Qs) (blk b 138 [.func (.func fn) #[] cap.toArray] :: r) (.there hf) (fun x => !p x) (fun x hx => all1_hse x fn cap Qs p b (hF x hx))
  refine W.callp rfl (ent_app (_ :: Qs) Rs) rfl .nil F1 ?_
  rintro _ rfl
  refine go ?_
  refine ⟨?_, by simp⟩ <;> intros
  exact ret1 ⟨by rw [← all_any], rfl⟩ (hh := .drop (ent_app Qs Rs))
end Go.Proofs.YtckkipangiapbaaGreat
