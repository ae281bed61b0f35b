/-
  The program's tables: numbers within bounds.
  The program's tables: a room, a kind of thing, a kind of mobile, by its number.
  Go's library over lists of rows: the first that meets a test, whether one does, whether all do.
  The program's tables: numbers that rise, what each row must be.
  The program's tables: what each row must be by itself; what the rows name is there.
  The program's tables: recipes, errands and shops by themselves; all by themselves.
  The program's tables: all that they name is there; they may be.
  The program's tables: they may be.
-/
import Derived.Test.YtlibnpdbcjgegaaGreatEnPure
namespace Go.Proofs.YtlibnpdbcjgegaaGreat
open Go.SL
set_option linter.unusedVariables false
set_option linter.unusedSimpArgs false
set_option maxHeartbeats 8000000
set_option maxRecDepth 20000
theorem in_yes (n a b : Int) (h1 : a ≤ n) (h2 : n ≤ b) : Trip Tryz.prog 202 [.int .i64 n, .int .i64 a, .int .i64 b] [] (fun v Ps => v = .bool true ∧ Ps = []) := by
  refine Trip.of (m := 15) Tryz.func202 rfl rfl rfl ?_
  intro o Rs
  simp only [List.cons_append, List.nil_append, enumFrom]
  refine go ?_
  refine ⟨?_, by simp⟩ <;> intros
  rw [decide_eq_true h2]
theorem id_yes (n : Int) (h : 1 ≤ n ∧ n ≤ 1000) : Trip Tryz.prog 201 [.int .i64 n] [] (fun v Ps => v = .bool true ∧ Ps = []) := by
  refine Trip.of (m := 5) Tryz.func201 rfl rfl rfl ?_
  intro o Rs
  simp only [List.cons_append, List.nil_append, enumFrom]
  have F1 := in_yes n 1 1000 h.1 h.2
  refine go ?_
  simp
end Go.Proofs.YtlibnpdbcjgegaaGreat
namespace Go.Proofs.YtlibnpdbcjgegaaGreat
open Go.SL
set_option linter.unusedVariables false
set_option linter.unusedSimpArgs false
set_option maxHeartbeats 8000000
set_option maxRecDepth 20000
def rmD (t : Tab) (id : Int) : Rm := match roomI t id with
  | none => default
  | some k => t.rooms.getD k default
def proD (t : Tab) (id : Int) : Pro := match protoI t id with
  | none => default
  | some k => t.protos.getD k default
def mprD (t : Tab) (id : Int) : Mpr := match mprI t id with
  | none => default
  | some k => t.mobs.getD k default
theorem RoomP_spec (d : Nat) (m : Tay) (t : Tab) (id : Int) (hl : t.rooms.length ≤ 1000000) (P : HProp) [hp : RT P d m t] : Trip Tryz.prog 132 [.pointer (some ⟨d, 0, none⟩), .int .i64 id] [P] (fun v Ps => v = .tuple #[.agg (rmC (rmD t id)).toArray, .bool (roomI t id).isSome] ∧ Ps = [P]) := by
  refine Trip.of (m := 26) Tryz.func132 rfl rfl rfl ?_
  intro o Rs
  simp only [List.cons_append, List.nil_append, enumFrom]
  unfold rmD
  refine go ?_
  refine ⟨?_, by simp⟩ <;> intros
  rename_i o0
  refine loop (fun k => k ≤ t.rooms.length ∧ (t.rooms.take k).findIdx? (fun x => x.id == id) = none) (fun k => [(0, .pointer (some ⟨d, 0, none⟩)), (1, .int .i64 id), (4, .pointer (some ⟨o0, 0, none⟩)), (5, .bool false), (13, .slice m.roA t.rooms.length m.roC), (14, .int .i64 (t.rooms.length : Int)), (15, .int .i64 (k : Int))]) (fun k => blk o0 112 (rmC default) :: P :: Rs) (fun k => t.rooms.length - k) 0 ⟨Nat.zero_le _, find_zero⟩ fun k ⟨h1, h2⟩ => ?_
  by_cases hk : k < t.rooms.length
  · obtain ⟨x, hx⟩ : ∃ x, t.rooms[k]? = some x := ⟨_, List.getElem?_eq_getElem hk⟩
    by_cases h3 : x.id = id
    · have hfi : roomI t id = some k := find_hit h2 hx (by simpa using h3)
      rw [hfi]
      simp only [getD_of hx, Option.isSome_some]
      refine go ?_
      refine ⟨?_, by simp⟩ <;> intros
      rfl
    · refine go ?_
      refine ⟨?_, by simp⟩ <;> intros
      exact rnd (k + 1) ⟨hk, find_miss h2 hx (by simpa using h3)⟩ (by omega)
  · have hfi : roomI t id = none := find_end h2 hk
    rw [hfi]
    simp only [Option.isSome_none]
    refine go ?_
    refine ⟨?_, by simp⟩ <;> intros
    rfl
theorem ProtoP_spec (d : Nat) (m : Tay) (t : Tab) (id : Int) (hl : t.protos.length ≤ 1000000) (P : HProp) [hp : RT P d m t] : Trip Tryz.prog 95 [.pointer (some ⟨d, 0, none⟩), .int .i64 id] [P] (fun v Ps => v = .tuple #[.agg (proC (proD t id)).toArray, .bool (protoI t id).isSome] ∧ Ps = [P]) := by
  refine Trip.of (m := 26) Tryz.func95 rfl rfl rfl ?_
  intro o Rs
  simp only [List.cons_append, List.nil_append, enumFrom]
  unfold proD
  refine go ?_
  refine ⟨?_, by simp⟩ <;> intros
  rename_i o0
  refine loop (fun k => k ≤ t.protos.length ∧ (t.protos.take k).findIdx? (fun x => x.id == id) = none) (fun k => [(0, .pointer (some ⟨d, 0, none⟩)), (1, .int .i64 id), (4, .pointer (some ⟨o0, 0, none⟩)), (5, .bool false), (13, .slice m.prA t.protos.length m.prC), (14, .int .i64 (t.protos.length : Int)), (15, .int .i64 (k : Int))]) (fun k => blk o0 133 (proC default) :: P :: Rs) (fun k => t.protos.length - k) 0 ⟨Nat.zero_le _, find_zero⟩ fun k ⟨h1, h2⟩ => ?_
  by_cases hk : k < t.protos.length
  · obtain ⟨x, hx⟩ : ∃ x, t.protos[k]? = some x := ⟨_, List.getElem?_eq_getElem hk⟩
    by_cases h3 : x.id = id
    · have hfi : protoI t id = some k := find_hit h2 hx (by simpa using h3)
      rw [hfi]
      simp only [getD_of hx, Option.isSome_some]
      refine go ?_
      refine ⟨?_, by simp⟩ <;> intros
      rfl
    · refine go ?_
      refine ⟨?_, by simp⟩ <;> intros
      exact rnd (k + 1) ⟨hk, find_miss h2 hx (by simpa using h3)⟩ (by omega)
  · have hfi : protoI t id = none := find_end h2 hk
    rw [hfi]
    simp only [Option.isSome_none]
    refine go ?_
    refine ⟨?_, by simp⟩ <;> intros
    rfl
theorem MobP_spec (d : Nat) (m : Tay) (t : Tab) (id : Int) (hl : t.mobs.length ≤ 1000000) (P : HProp) [hp : RT P d m t] : Trip Tryz.prog 59 [.pointer (some ⟨d, 0, none⟩), .int .i64 id] [P] (fun v Ps => v = .tuple #[.agg (mprC (mprD t id)).toArray, .bool (mprI t id).isSome] ∧ Ps = [P]) := by
  refine Trip.of (m := 26) Tryz.func59 rfl rfl rfl ?_
  intro o Rs
  simp only [List.cons_append, List.nil_append, enumFrom]
  unfold mprD
  refine go ?_
  refine ⟨?_, by simp⟩ <;> intros
  rename_i o0
  refine loop (fun k => k ≤ t.mobs.length ∧ (t.mobs.take k).findIdx? (fun x => x.id == id) = none) (fun k => [(0, .pointer (some ⟨d, 0, none⟩)), (1, .int .i64 id), (4, .pointer (some ⟨o0, 0, none⟩)), (5, .bool false), (13, .slice m.moA t.mobs.length m.moC), (14, .int .i64 (t.mobs.length : Int)), (15, .int .i64 (k : Int))]) (fun k => blk o0 77 (mprC default) :: P :: Rs) (fun k => t.mobs.length - k) 0 ⟨Nat.zero_le _, find_zero⟩ fun k ⟨h1, h2⟩ => ?_
  by_cases hk : k < t.mobs.length
  · obtain ⟨x, hx⟩ : ∃ x, t.mobs[k]? = some x := ⟨_, List.getElem?_eq_getElem hk⟩
    by_cases h3 : x.id = id
    · have hfi : mprI t id = some k := find_hit h2 hx (by simpa using h3)
      rw [hfi]
      simp only [getD_of hx, Option.isSome_some]
      refine go ?_
      refine ⟨?_, by simp⟩ <;> intros
      rfl
    · refine go ?_
      refine ⟨?_, by simp⟩ <;> intros
      exact rnd (k + 1) ⟨hk, find_miss h2 hx (by simpa using h3)⟩ (by omega)
  · have hfi : mprI t id = none := find_end h2 hk
    rw [hfi]
    simp only [Option.isSome_none]
    refine go ?_
    refine ⟨?_, by simp⟩ <;> intros
    rfl
end Go.Proofs.YtlibnpdbcjgegaaGreat
namespace Go.Proofs.YtlibnpdbcjgegaaGreat
open Go.SL
set_option linter.unusedVariables false
set_option linter.unusedSimpArgs false
set_option maxHeartbeats 8000000
set_option maxRecDepth 20000
theorem find_back {hs : List HProp} {A : HProp} {r : List HProp} (h : Find hs A r) : Lift (A :: r) hs := by
  induction h with
  | here => exact .refl _
  | there _ ih => exact (Lift.swap _ _ _).trans (ih.cons _)
theorem lift_app {a b : List HProp} (h : Lift a b) (Rs : List HProp) : Lift (a ++ Rs) (b ++ Rs) := by
  intro l hl
  obtain ⟨l1, l2, rfl, h1, h2⟩ := List.map_eq_append_iff.1 hl
  obtain ⟨l1', g1, g2, g3⟩ := h l1 h1
  refine ⟨l1' ++ l2, by simp [g1, h2], fun p hp => ?_, fun hp => ?_⟩
  · rcases List.mem_append.1 hp with hp | hp
    · exact (g2 p hp).imp (List.mem_append_left _) id
    · exact .inl (List.mem_append_right _ hp)
  · rw [List.pairwise_append] at hp ⊢
    refine ⟨g3 hp.1, hp.2.1, fun p hp1 q hq => ?_⟩
    rcases g2 p hp1 with h | ⟨_, h⟩
    · exact hp.2.2 p h q hq
    · show Compat p.2 q.2
      rw [h]; exact Compat.emp_left _
theorem ent_app : ∀ (Qs Rs : List HProp), Ent (Qs ++ Rs) Qs Rs
  | [], _ => .done
  | _ :: Qs, Rs => .take .here (ent_app Qs Rs)
theorem any_of {α : Type} {l : List α} {p : α → Bool} : decide ((0 : Int) ≤ iv (l.findIdx? p)) = l.any p := by
  cases h : l.findIdx? p with
  | none =>
    have h2 := List.findIdx?_eq_none_iff.1 h
    rw [show l.any p = false from by simpa using h2]; rfl
  | some k =>
    obtain ⟨x, hx, hp⟩ := find_get h
    rw [show l.any p = true from List.any_eq_true.2 ⟨x, List.mem_of_getElem? hx, hp⟩]
    exact decide_eq_true (by show (0 : Int) ≤ (k : Int); omega)
theorem lift_in (X : HProp) : ∀ (Qs Rs : List HProp), Lift (X :: (Qs ++ Rs)) (Qs ++ X :: Rs)
  | [], _ => .refl _
  | Q :: Qs, Rs => (Lift.swap _ _ _).trans ((lift_in X Qs Rs).cons Q)
theorem lift_out (X : HProp) : ∀ (Qs Rs : List HProp), Lift (Qs ++ X :: Rs) (X :: (Qs ++ Rs))
  | [], _ => .refl _
  | Q :: Qs, Rs => ((lift_out X Qs Rs).cons Q).trans (Lift.swap _ _ _)
theorem lift_in2 (X Y : HProp) (Qs Rs : List HProp) : Lift (X :: Y :: (Qs ++ Rs)) (Qs ++ X :: Y :: Rs) := ((lift_in Y Qs Rs).cons X).trans (lift_in X Qs (Y :: Rs))
theorem lift_out2 (X Y : HProp) (Qs Rs : List HProp) : Lift (Qs ++ X :: Y :: Rs) (X :: Y :: (Qs ++ Rs)) := (lift_out X Qs (Y :: Rs)).trans ((lift_out Y Qs Rs).cons X)
theorem all_any {α : Type} (l : List α) (p : α → Bool) : (!(l.any fun x => !p x)) = l.all p := by
  induction l with
  | nil => rfl
  | cons x l ih => simp only [List.any_cons, List.all_cons, Bool.not_or, Bool.not_not, ih]
theorem idx_mob (l : List (Mob)) (A : Option Addr) (c : Nat) (hl : l.length ≤ 1000000) (P : HProp) (hP : Reads P (Em) A l) (fn : Nat) [hc : Callable Tryz.prog fn] (cap : List Value) (Qs r : List HProp) (hf : Find Qs P r) (p : Mob → Bool)
    (hF : ∀ x ∈ l, Trip Tryz.prog fn ([.agg (mobC x).toArray] ++ cap) Qs (fun v Ps => v = .bool (p x) ∧ Ps = Qs)) :
    Trip Tryz.prog 181 [.slice A l.length c, .func (.func fn) #[] cap.toArray] Qs (fun v Ps => v = .int .i64 (iv (l.findIdx? p)) ∧ Ps = Qs) := by
  refine Trip.of (m := 19) Tryz.func181 rfl rfl rfl ?_
  intro o Rs
  simp only [List.cons_append, List.nil_append, enumFrom]
  refine C.lift (lift_app hf.lift Rs) ?_
  rw [List.cons_append]
  generalize hT : r ++ Rs = T
  refine go ?_
  refine ⟨?_, by simp⟩ <;> intros
  refine loop (fun k => k ≤ l.length ∧ (l.take k).findIdx? p = none) (fun k => [(0, .slice A l.length c), (1, .func (.func fn) #[] cap.toArray), (7, .int .i64 (l.length : Int)), (8, .int .i64 (k : Int))]) (fun k => P :: T) (fun k => l.length - k) 0 ⟨Nat.zero_le _, find_zero⟩ fun k ⟨h1, h2⟩ => ?_
  by_cases hk : k < l.length
  · obtain ⟨x, hx⟩ : ∃ x, l[k]? = some x := ⟨_, List.getElem?_eq_getElem hk⟩
    have F1 := hF x (List.mem_of_getElem? hx)
    refine go ?_
    refine ⟨?_, by simp⟩ <;> intros
    refine W.lift (hs' := Qs ++ Rs) (by subst hT; exact lift_app (find_back hf) Rs) ?_
    refine W.callv rfl rfl rfl (ent_app Qs Rs) rfl .nil F1 ?_
    rintro _ Ps ⟨rfl, e⟩
    rw [e]
    refine W.lift (hs' := P :: T) (by subst hT; exact lift_app hf.lift Rs) ?_
    cases hp : p x
    · refine go ?_
      refine ⟨?_, by simp⟩ <;> intros
      exact rnd (k + 1) ⟨hk, find_miss h2 hx hp⟩ (by omega)
    · have hfi := find_hit h2 hx hp
      refine go ?_
      refine ⟨?_, by simp⟩ <;> intros
      refine E.lift (hs' := Qs ++ Rs) (by subst hT; exact lift_app (find_back hf) Rs) ?_
      exact ret1 ⟨by rw [hfi], rfl⟩ (hh := ent_app Qs Rs)
  · have hfi := find_end h2 hk
    refine go ?_
    refine ⟨?_, by simp⟩ <;> intros
    refine E.lift (hs' := Qs ++ Rs) (by subst hT; exact lift_app (find_back hf) Rs) ?_
    exact ret1 ⟨by rw [hfi], rfl⟩ (hh := ent_app Qs Rs)
theorem idx_thg (l : List (Thg)) (A : Option Addr) (c : Nat) (hl : l.length ≤ 1000000) (P : HProp) (hP : Reads P (Et) A l) (fn : Nat) [hc : Callable Tryz.prog fn] (cap : List Value) (Qs r : List HProp) (hf : Find Qs P r) (p : Thg → Bool)
    (hF : ∀ x ∈ l, Trip Tryz.prog fn ([.agg (thgC x).toArray] ++ cap) Qs (fun v Ps => v = .bool (p x) ∧ Ps = Qs)) :
    Trip Tryz.prog 81 [.slice A l.length c, .func (.func fn) #[] cap.toArray] Qs (fun v Ps => v = .int .i64 (iv (l.findIdx? p)) ∧ Ps = Qs) := by
  refine Trip.of (m := 19) Tryz.func81 rfl rfl rfl ?_
  intro o Rs
  simp only [List.cons_append, List.nil_append, enumFrom]
  refine C.lift (lift_app hf.lift Rs) ?_
  rw [List.cons_append]
  generalize hT : r ++ Rs = T
  refine go ?_
  refine ⟨?_, by simp⟩ <;> intros
  refine loop (fun k => k ≤ l.length ∧ (l.take k).findIdx? p = none) (fun k => [(0, .slice A l.length c), (1, .func (.func fn) #[] cap.toArray), (7, .int .i64 (l.length : Int)), (8, .int .i64 (k : Int))]) (fun k => P :: T) (fun k => l.length - k) 0 ⟨Nat.zero_le _, find_zero⟩ fun k ⟨h1, h2⟩ => ?_
  by_cases hk : k < l.length
  · obtain ⟨x, hx⟩ : ∃ x, l[k]? = some x := ⟨_, List.getElem?_eq_getElem hk⟩
    have F1 := hF x (List.mem_of_getElem? hx)
    refine go ?_
    refine ⟨?_, by simp⟩ <;> intros
    refine W.lift (hs' := Qs ++ Rs) (by subst hT; exact lift_app (find_back hf) Rs) ?_
    refine W.callv rfl rfl rfl (ent_app Qs Rs) rfl .nil F1 ?_
    rintro _ Ps ⟨rfl, e⟩
    rw [e]
    refine W.lift (hs' := P :: T) (by subst hT; exact lift_app hf.lift Rs) ?_
    cases hp : p x
    · refine go ?_
      refine ⟨?_, by simp⟩ <;> intros
      exact rnd (k + 1) ⟨hk, find_miss h2 hx hp⟩ (by omega)
    · have hfi := find_hit h2 hx hp
      refine go ?_
      refine ⟨?_, by simp⟩ <;> intros
      refine E.lift (hs' := Qs ++ Rs) (by subst hT; exact lift_app (find_back hf) Rs) ?_
      exact ret1 ⟨by rw [hfi], rfl⟩ (hh := ent_app Qs Rs)
  · have hfi := find_end h2 hk
    refine go ?_
    refine ⟨?_, by simp⟩ <;> intros
    refine E.lift (hs' := Qs ++ Rs) (by subst hT; exact lift_app (find_back hf) Rs) ?_
    exact ret1 ⟨by rw [hfi], rfl⟩ (hh := ent_app Qs Rs)
theorem idx_lot (l : List (Lot)) (A : Option Addr) (c : Nat) (hl : l.length ≤ 1000000) (P : HProp) (hP : Reads P (El) A l) (fn : Nat) [hc : Callable Tryz.prog fn] (cap : List Value) (Qs r : List HProp) (hf : Find Qs P r) (p : Lot → Bool)
    (hF : ∀ x ∈ l, Trip Tryz.prog fn ([.agg (lotC x).toArray] ++ cap) Qs (fun v Ps => v = .bool (p x) ∧ Ps = Qs)) :
    Trip Tryz.prog 186 [.slice A l.length c, .func (.func fn) #[] cap.toArray] Qs (fun v Ps => v = .int .i64 (iv (l.findIdx? p)) ∧ Ps = Qs) := by
  refine Trip.of (m := 19) Tryz.func186 rfl rfl rfl ?_
  intro o Rs
  simp only [List.cons_append, List.nil_append, enumFrom]
  refine C.lift (lift_app hf.lift Rs) ?_
  rw [List.cons_append]
  generalize hT : r ++ Rs = T
  refine go ?_
  refine ⟨?_, by simp⟩ <;> intros
  refine loop (fun k => k ≤ l.length ∧ (l.take k).findIdx? p = none) (fun k => [(0, .slice A l.length c), (1, .func (.func fn) #[] cap.toArray), (7, .int .i64 (l.length : Int)), (8, .int .i64 (k : Int))]) (fun k => P :: T) (fun k => l.length - k) 0 ⟨Nat.zero_le _, find_zero⟩ fun k ⟨h1, h2⟩ => ?_
  by_cases hk : k < l.length
  · obtain ⟨x, hx⟩ : ∃ x, l[k]? = some x := ⟨_, List.getElem?_eq_getElem hk⟩
    have F1 := hF x (List.mem_of_getElem? hx)
    refine go ?_
    refine ⟨?_, by simp⟩ <;> intros
    refine W.lift (hs' := Qs ++ Rs) (by subst hT; exact lift_app (find_back hf) Rs) ?_
    refine W.callv rfl rfl rfl (ent_app Qs Rs) rfl .nil F1 ?_
    rintro _ Ps ⟨rfl, e⟩
    rw [e]
    refine W.lift (hs' := P :: T) (by subst hT; exact lift_app hf.lift Rs) ?_
    cases hp : p x
    · refine go ?_
      refine ⟨?_, by simp⟩ <;> intros
      exact rnd (k + 1) ⟨hk, find_miss h2 hx hp⟩ (by omega)
    · have hfi := find_hit h2 hx hp
      refine go ?_
      refine ⟨?_, by simp⟩ <;> intros
      refine E.lift (hs' := Qs ++ Rs) (by subst hT; exact lift_app (find_back hf) Rs) ?_
      exact ret1 ⟨by rw [hfi], rfl⟩ (hh := ent_app Qs Rs)
  · have hfi := find_end h2 hk
    refine go ?_
    refine ⟨?_, by simp⟩ <;> intros
    refine E.lift (hs' := Qs ++ Rs) (by subst hT; exact lift_app (find_back hf) Rs) ?_
    exact ret1 ⟨by rw [hfi], rfl⟩ (hh := ent_app Qs Rs)
theorem idx_chr (l : List (Chr × PA)) (A : Option Addr) (c : Nat) (hl : l.length ≤ 1000000) (P : HProp) (hP : Reads P (Ec) A l) (fn : Nat) [hc : Callable Tryz.prog fn] (cap : List Value) (Qs r : List HProp) (hf : Find Qs P r) (p : Chr × PA → Bool)
    (hF : ∀ x ∈ l, Trip Tryz.prog fn ([.agg (chrC x.1 x.2).toArray] ++ cap) Qs (fun v Ps => v = .bool (p x) ∧ Ps = Qs)) :
    Trip Tryz.prog 87 [.slice A l.length c, .func (.func fn) #[] cap.toArray] Qs (fun v Ps => v = .int .i64 (iv (l.findIdx? p)) ∧ Ps = Qs) := by
  refine Trip.of (m := 19) Tryz.func87 rfl rfl rfl ?_
  intro o Rs
  simp only [List.cons_append, List.nil_append, enumFrom]
  refine C.lift (lift_app hf.lift Rs) ?_
  rw [List.cons_append]
  generalize hT : r ++ Rs = T
  refine go ?_
  refine ⟨?_, by simp⟩ <;> intros
  refine loop (fun k => k ≤ l.length ∧ (l.take k).findIdx? p = none) (fun k => [(0, .slice A l.length c), (1, .func (.func fn) #[] cap.toArray), (7, .int .i64 (l.length : Int)), (8, .int .i64 (k : Int))]) (fun k => P :: T) (fun k => l.length - k) 0 ⟨Nat.zero_le _, find_zero⟩ fun k ⟨h1, h2⟩ => ?_
  by_cases hk : k < l.length
  · obtain ⟨x, hx⟩ : ∃ x, l[k]? = some x := ⟨_, List.getElem?_eq_getElem hk⟩
    have F1 := hF x (List.mem_of_getElem? hx)
    refine go ?_
    refine ⟨?_, by simp⟩ <;> intros
    refine W.lift (hs' := Qs ++ Rs) (by subst hT; exact lift_app (find_back hf) Rs) ?_
    refine W.callv rfl rfl rfl (ent_app Qs Rs) rfl .nil F1 ?_
    rintro _ Ps ⟨rfl, e⟩
    rw [e]
    refine W.lift (hs' := P :: T) (by subst hT; exact lift_app hf.lift Rs) ?_
    cases hp : p x
    · refine go ?_
      refine ⟨?_, by simp⟩ <;> intros
      exact rnd (k + 1) ⟨hk, find_miss h2 hx hp⟩ (by omega)
    · have hfi := find_hit h2 hx hp
      refine go ?_
      refine ⟨?_, by simp⟩ <;> intros
      refine E.lift (hs' := Qs ++ Rs) (by subst hT; exact lift_app (find_back hf) Rs) ?_
      exact ret1 ⟨by rw [hfi], rfl⟩ (hh := ent_app Qs Rs)
  · have hfi := find_end h2 hk
    refine go ?_
    refine ⟨?_, by simp⟩ <;> intros
    refine E.lift (hs' := Qs ++ Rs) (by subst hT; exact lift_app (find_back hf) Rs) ?_
    exact ret1 ⟨by rw [hfi], rfl⟩ (hh := ent_app Qs Rs)
theorem idx_hse (l : List (Hse × PA)) (A : Option Addr) (c : Nat) (hl : l.length ≤ 1000000) (P : HProp) (hP : Reads P (Eh) A l) (fn : Nat) [hc : Callable Tryz.prog fn] (cap : List Value) (Qs r : List HProp) (hf : Find Qs P r) (p : Hse × PA → Bool)
    (hF : ∀ x ∈ l, Trip Tryz.prog fn ([.agg (hseC x.1 x.2).toArray] ++ cap) Qs (fun v Ps => v = .bool (p x) ∧ Ps = Qs)) :
    Trip Tryz.prog 185 [.slice A l.length c, .func (.func fn) #[] cap.toArray] Qs (fun v Ps => v = .int .i64 (iv (l.findIdx? p)) ∧ Ps = Qs) := by
  refine Trip.of (m := 19) Tryz.func185 rfl rfl rfl ?_
  intro o Rs
  simp only [List.cons_append, List.nil_append, enumFrom]
  refine C.lift (lift_app hf.lift Rs) ?_
  rw [List.cons_append]
  generalize hT : r ++ Rs = T
  refine go ?_
  refine ⟨?_, by simp⟩ <;> intros
  refine loop (fun k => k ≤ l.length ∧ (l.take k).findIdx? p = none) (fun k => [(0, .slice A l.length c), (1, .func (.func fn) #[] cap.toArray), (7, .int .i64 (l.length : Int)), (8, .int .i64 (k : Int))]) (fun k => P :: T) (fun k => l.length - k) 0 ⟨Nat.zero_le _, find_zero⟩ fun k ⟨h1, h2⟩ => ?_
  by_cases hk : k < l.length
  · obtain ⟨x, hx⟩ : ∃ x, l[k]? = some x := ⟨_, List.getElem?_eq_getElem hk⟩
    have F1 := hF x (List.mem_of_getElem? hx)
    refine go ?_
    refine ⟨?_, by simp⟩ <;> intros
    refine W.lift (hs' := Qs ++ Rs) (by subst hT; exact lift_app (find_back hf) Rs) ?_
    refine W.callv rfl rfl rfl (ent_app Qs Rs) rfl .nil F1 ?_
    rintro _ Ps ⟨rfl, e⟩
    rw [e]
    refine W.lift (hs' := P :: T) (by subst hT; exact lift_app hf.lift Rs) ?_
    cases hp : p x
    · refine go ?_
      refine ⟨?_, by simp⟩ <;> intros
      exact rnd (k + 1) ⟨hk, find_miss h2 hx hp⟩ (by omega)
    · have hfi := find_hit h2 hx hp
      refine go ?_
      refine ⟨?_, by simp⟩ <;> intros
      refine E.lift (hs' := Qs ++ Rs) (by subst hT; exact lift_app (find_back hf) Rs) ?_
      exact ret1 ⟨by rw [hfi], rfl⟩ (hh := ent_app Qs Rs)
  · have hfi := find_end h2 hk
    refine go ?_
    refine ⟨?_, by simp⟩ <;> intros
    refine E.lift (hs' := Qs ++ Rs) (by subst hT; exact lift_app (find_back hf) Rs) ?_
    exact ret1 ⟨by rw [hfi], rfl⟩ (hh := ent_app Qs Rs)
theorem idx_int (l : List (Int)) (A : Option Addr) (c : Nat) (hl : l.length ≤ 1000000) (P : HProp) (hP : Reads P (E64) A l) (fn : Nat) [hc : Callable Tryz.prog fn] (cap : List Value) (Qs r : List HProp) (hf : Find Qs P r) (p : Int → Bool)
    (hF : ∀ x ∈ l, Trip Tryz.prog fn ([.int .i64 x] ++ cap) Qs (fun v Ps => v = .bool (p x) ∧ Ps = Qs)) :
    Trip Tryz.prog 241 [.slice A l.length c, .func (.func fn) #[] cap.toArray] Qs (fun v Ps => v = .int .i64 (iv (l.findIdx? p)) ∧ Ps = Qs) := by
  refine Trip.of (m := 19) Tryz.func241 rfl rfl rfl ?_
  intro o Rs
  simp only [List.cons_append, List.nil_append, enumFrom]
  refine C.lift (lift_app hf.lift Rs) ?_
  rw [List.cons_append]
  generalize hT : r ++ Rs = T
  refine go ?_
  refine ⟨?_, by simp⟩ <;> intros
  refine loop (fun k => k ≤ l.length ∧ (l.take k).findIdx? p = none) (fun k => [(0, .slice A l.length c), (1, .func (.func fn) #[] cap.toArray), (7, .int .i64 (l.length : Int)), (8, .int .i64 (k : Int))]) (fun k => P :: T) (fun k => l.length - k) 0 ⟨Nat.zero_le _, find_zero⟩ fun k ⟨h1, h2⟩ => ?_
  by_cases hk : k < l.length
  · obtain ⟨x, hx⟩ : ∃ x, l[k]? = some x := ⟨_, List.getElem?_eq_getElem hk⟩
    have F1 := hF x (List.mem_of_getElem? hx)
    refine go ?_
    refine ⟨?_, by simp⟩ <;> intros
    refine W.lift (hs' := Qs ++ Rs) (by subst hT; exact lift_app (find_back hf) Rs) ?_
    refine W.callv rfl rfl rfl (ent_app Qs Rs) rfl .nil F1 ?_
    rintro _ Ps ⟨rfl, e⟩
    rw [e]
    refine W.lift (hs' := P :: T) (by subst hT; exact lift_app hf.lift Rs) ?_
    cases hp : p x
    · refine go ?_
      refine ⟨?_, by simp⟩ <;> intros
      exact rnd (k + 1) ⟨hk, find_miss h2 hx hp⟩ (by omega)
    · have hfi := find_hit h2 hx hp
      refine go ?_
      refine ⟨?_, by simp⟩ <;> intros
      refine E.lift (hs' := Qs ++ Rs) (by subst hT; exact lift_app (find_back hf) Rs) ?_
      exact ret1 ⟨by rw [hfi], rfl⟩ (hh := ent_app Qs Rs)
  · have hfi := find_end h2 hk
    refine go ?_
    refine ⟨?_, by simp⟩ <;> intros
    refine E.lift (hs' := Qs ++ Rs) (by subst hT; exact lift_app (find_back hf) Rs) ?_
    exact ret1 ⟨by rw [hfi], rfl⟩ (hh := ent_app Qs Rs)
theorem ct_mob (l : List (Mob)) (A : Option Addr) (c : Nat) (hl : l.length ≤ 1000000) (P : HProp) (hP : Reads P (Em) A l) (fn : Nat) [hc : Callable Tryz.prog fn] (cap : List Value) (Qs r : List HProp) (hf : Find Qs P r) (p : Mob → Bool)
    (hF : ∀ x ∈ l, Trip Tryz.prog fn ([.agg (mobC x).toArray] ++ cap) Qs (fun v Ps => v = .bool (p x) ∧ Ps = Qs)) :
    Trip Tryz.prog 130 [.slice A l.length c, .func (.func fn) #[] cap.toArray] Qs (fun v Ps => v = .bool (l.any p) ∧ Ps = Qs) := by
  refine Trip.of (m := 9) Tryz.func130 rfl rfl rfl ?_
  intro o Rs
  simp only [List.cons_append, List.nil_append, enumFrom]
  have F1 := idx_mob l A c hl P hP fn cap Qs r hf p hF
  refine go ?_
  refine ⟨?_, by simp⟩ <;> intros
  refine W.callp rfl (ent_app Qs Rs) rfl .nil F1 ?_
  rintro _ rfl
  refine go ?_
  refine ⟨?_, by simp⟩ <;> intros
  exact ret1 ⟨congrArg Value.bool any_of, rfl⟩ (hh := ent_app Qs Rs)
theorem ct_thg (l : List (Thg)) (A : Option Addr) (c : Nat) (hl : l.length ≤ 1000000) (P : HProp) (hP : Reads P (Et) A l) (fn : Nat) [hc : Callable Tryz.prog fn] (cap : List Value) (Qs r : List HProp) (hf : Find Qs P r) (p : Thg → Bool)
    (hF : ∀ x ∈ l, Trip Tryz.prog fn ([.agg (thgC x).toArray] ++ cap) Qs (fun v Ps => v = .bool (p x) ∧ Ps = Qs)) :
    Trip Tryz.prog 126 [.slice A l.length c, .func (.func fn) #[] cap.toArray] Qs (fun v Ps => v = .bool (l.any p) ∧ Ps = Qs) := by
  refine Trip.of (m := 9) Tryz.func126 rfl rfl rfl ?_
  intro o Rs
  simp only [List.cons_append, List.nil_append, enumFrom]
  have F1 := idx_thg l A c hl P hP fn cap Qs r hf p hF
  refine go ?_
  refine ⟨?_, by simp⟩ <;> intros
  refine W.callp rfl (ent_app Qs Rs) rfl .nil F1 ?_
  rintro _ rfl
  refine go ?_
  refine ⟨?_, by simp⟩ <;> intros
  exact ret1 ⟨congrArg Value.bool any_of, rfl⟩ (hh := ent_app Qs Rs)
theorem ct_lot (l : List (Lot)) (A : Option Addr) (c : Nat) (hl : l.length ≤ 1000000) (P : HProp) (hP : Reads P (El) A l) (fn : Nat) [hc : Callable Tryz.prog fn] (cap : List Value) (Qs r : List HProp) (hf : Find Qs P r) (p : Lot → Bool)
    (hF : ∀ x ∈ l, Trip Tryz.prog fn ([.agg (lotC x).toArray] ++ cap) Qs (fun v Ps => v = .bool (p x) ∧ Ps = Qs)) :
    Trip Tryz.prog 148 [.slice A l.length c, .func (.func fn) #[] cap.toArray] Qs (fun v Ps => v = .bool (l.any p) ∧ Ps = Qs) := by
  refine Trip.of (m := 9) Tryz.func148 rfl rfl rfl ?_
  intro o Rs
  simp only [List.cons_append, List.nil_append, enumFrom]
  have F1 := idx_lot l A c hl P hP fn cap Qs r hf p hF
  refine go ?_
  refine ⟨?_, by simp⟩ <;> intros
  refine W.callp rfl (ent_app Qs Rs) rfl .nil F1 ?_
  rintro _ rfl
  refine go ?_
  refine ⟨?_, by simp⟩ <;> intros
  exact ret1 ⟨congrArg Value.bool any_of, rfl⟩ (hh := ent_app Qs Rs)
theorem ct_chr (l : List (Chr × PA)) (A : Option Addr) (c : Nat) (hl : l.length ≤ 1000000) (P : HProp) (hP : Reads P (Ec) A l) (fn : Nat) [hc : Callable Tryz.prog fn] (cap : List Value) (Qs r : List HProp) (hf : Find Qs P r) (p : Chr × PA → Bool)
    (hF : ∀ x ∈ l, Trip Tryz.prog fn ([.agg (chrC x.1 x.2).toArray] ++ cap) Qs (fun v Ps => v = .bool (p x) ∧ Ps = Qs)) :
    Trip Tryz.prog 133 [.slice A l.length c, .func (.func fn) #[] cap.toArray] Qs (fun v Ps => v = .bool (l.any p) ∧ Ps = Qs) := by
  refine Trip.of (m := 9) Tryz.func133 rfl rfl rfl ?_
  intro o Rs
  simp only [List.cons_append, List.nil_append, enumFrom]
  have F1 := idx_chr l A c hl P hP fn cap Qs r hf p hF
  refine go ?_
  refine ⟨?_, by simp⟩ <;> intros
  refine W.callp rfl (ent_app Qs Rs) rfl .nil F1 ?_
  rintro _ rfl
  refine go ?_
  refine ⟨?_, by simp⟩ <;> intros
  exact ret1 ⟨congrArg Value.bool any_of, rfl⟩ (hh := ent_app Qs Rs)
theorem ct_hse (l : List (Hse × PA)) (A : Option Addr) (c : Nat) (hl : l.length ≤ 1000000) (P : HProp) (hP : Reads P (Eh) A l) (fn : Nat) [hc : Callable Tryz.prog fn] (cap : List Value) (Qs r : List HProp) (hf : Find Qs P r) (p : Hse × PA → Bool)
    (hF : ∀ x ∈ l, Trip Tryz.prog fn ([.agg (hseC x.1 x.2).toArray] ++ cap) Qs (fun v Ps => v = .bool (p x) ∧ Ps = Qs)) :
    Trip Tryz.prog 144 [.slice A l.length c, .func (.func fn) #[] cap.toArray] Qs (fun v Ps => v = .bool (l.any p) ∧ Ps = Qs) := by
  refine Trip.of (m := 9) Tryz.func144 rfl rfl rfl ?_
  intro o Rs
  simp only [List.cons_append, List.nil_append, enumFrom]
  have F1 := idx_hse l A c hl P hP fn cap Qs r hf p hF
  refine go ?_
  refine ⟨?_, by simp⟩ <;> intros
  refine W.callp rfl (ent_app Qs Rs) rfl .nil F1 ?_
  rintro _ rfl
  refine go ?_
  refine ⟨?_, by simp⟩ <;> intros
  exact ret1 ⟨congrArg Value.bool any_of, rfl⟩ (hh := ent_app Qs Rs)
theorem ct_int (l : List (Int)) (A : Option Addr) (c : Nat) (hl : l.length ≤ 1000000) (P : HProp) (hP : Reads P (E64) A l) (fn : Nat) [hc : Callable Tryz.prog fn] (cap : List Value) (Qs r : List HProp) (hf : Find Qs P r) (p : Int → Bool)
    (hF : ∀ x ∈ l, Trip Tryz.prog fn ([.int .i64 x] ++ cap) Qs (fun v Ps => v = .bool (p x) ∧ Ps = Qs)) :
    Trip Tryz.prog 204 [.slice A l.length c, .func (.func fn) #[] cap.toArray] Qs (fun v Ps => v = .bool (l.any p) ∧ Ps = Qs) := by
  refine Trip.of (m := 9) Tryz.func204 rfl rfl rfl ?_
  intro o Rs
  simp only [List.cons_append, List.nil_append, enumFrom]
  have F1 := idx_int l A c hl P hP fn cap Qs r hf p hF
  refine go ?_
  refine ⟨?_, by simp⟩ <;> intros
  refine W.callp rfl (ent_app Qs Rs) rfl .nil F1 ?_
  rintro _ rfl
  refine go ?_
  refine ⟨?_, by simp⟩ <;> intros
  exact ret1 ⟨congrArg Value.bool any_of, rfl⟩ (hh := ent_app Qs Rs)
theorem all1_mob (x : Mob) (fn : Nat) [hc : Callable Tryz.prog fn] (cap : List Value) (Qs : List HProp) (p : Mob → Bool) (b : Nat) (h : Trip Tryz.prog fn ([.agg (mobC x).toArray] ++ cap) Qs (fun v Ps => v = .bool (p x) ∧ Ps = Qs)) :
    Trip Tryz.prog 131 ([.agg (mobC x).toArray] ++ [.pointer (some ⟨b, 0, none⟩)]) (blk b 99 [.func (.func fn) #[] cap.toArray] :: Qs) (fun v Ps => v = .bool (!p x) ∧ Ps = blk b 99 [.func (.func fn) #[] cap.toArray] :: Qs) := by
  refine Trip.of (m := 8) Tryz.func131 rfl rfl rfl ?_
  intro o Rs
  simp only [List.cons_append, List.nil_append, enumFrom]
  refine go ?_
  refine ⟨?_, by simp⟩ <;> intros
  refine W.lift (lift_in2 _ _ Qs Rs) ?_
  refine W.callv rfl rfl rfl (ent_app Qs _) rfl .nil h ?_
  rintro _ Ps ⟨rfl, e⟩
  rw [e]
  refine W.lift (lift_out2 _ _ Qs Rs) ?_
  refine go ?_
  refine ⟨?_, by simp⟩ <;> intros
  exact ret1 ⟨rfl, rfl⟩ (hh := .drop (.take .here (ent_app _ _)))
theorem all_mob (l : List (Mob)) (A : Option Addr) (c : Nat) (hl : l.length ≤ 1000000) (P : HProp) (hP : Reads P (Em) A l) (fn : Nat) [hc : Callable Tryz.prog fn] (cap : List Value) (Qs r : List HProp) (hf : Find Qs P r) (p : Mob → Bool)
    (hF : ∀ x ∈ l, Trip Tryz.prog fn ([.agg (mobC x).toArray] ++ cap) Qs (fun v Ps => v = .bool (p x) ∧ Ps = Qs)) :
    Trip Tryz.prog 57 [.slice A l.length c, .func (.func fn) #[] cap.toArray] Qs (fun v Ps => v = .bool (l.all p) ∧ Ps = Qs) := by
  refine Trip.of (m := 9) Tryz.func57 rfl rfl rfl ?_
  intro o Rs
  simp only [List.cons_append, List.nil_append, enumFrom]
  refine go ?_
  refine ⟨?_, by simp⟩ <;> intros
  rename_i b
  have F1 := ct_mob l A c hl P hP 131 [.pointer (some ⟨b, 0, none⟩)] (blk b 99 [.func (.func fn) #[] cap.toArray] :: Qs) (blk b 99 [.func (.func fn) #[] cap.toArray] :: r) (.there hf) (fun x => !p x) (fun x hx => all1_mob x fn cap Qs p b (hF x hx))
  refine W.callp rfl (ent_app (_ :: Qs) Rs) rfl .nil F1 ?_
  rintro _ rfl
  refine go ?_
  refine ⟨?_, by simp⟩ <;> intros
  exact ret1 ⟨by rw [← all_any], rfl⟩ (hh := .drop (ent_app Qs Rs))
theorem all1_thg (x : Thg) (fn : Nat) [hc : Callable Tryz.prog fn] (cap : List Value) (Qs : List HProp) (p : Thg → Bool) (b : Nat) (h : Trip Tryz.prog fn ([.agg (thgC x).toArray] ++ cap) Qs (fun v Ps => v = .bool (p x) ∧ Ps = Qs)) :
    Trip Tryz.prog 127 ([.agg (thgC x).toArray] ++ [.pointer (some ⟨b, 0, none⟩)]) (blk b 94 [.func (.func fn) #[] cap.toArray] :: Qs) (fun v Ps => v = .bool (!p x) ∧ Ps = blk b 94 [.func (.func fn) #[] cap.toArray] :: Qs) := by
  refine Trip.of (m := 8) Tryz.func127 rfl rfl rfl ?_
  intro o Rs
  simp only [List.cons_append, List.nil_append, enumFrom]
  refine go ?_
  refine ⟨?_, by simp⟩ <;> intros
  refine W.lift (lift_in2 _ _ Qs Rs) ?_
  refine W.callv rfl rfl rfl (ent_app Qs _) rfl .nil h ?_
  rintro _ Ps ⟨rfl, e⟩
  rw [e]
  refine W.lift (lift_out2 _ _ Qs Rs) ?_
  refine go ?_
  refine ⟨?_, by simp⟩ <;> intros
  exact ret1 ⟨rfl, rfl⟩ (hh := .drop (.take .here (ent_app _ _)))
theorem all_thg (l : List (Thg)) (A : Option Addr) (c : Nat) (hl : l.length ≤ 1000000) (P : HProp) (hP : Reads P (Et) A l) (fn : Nat) [hc : Callable Tryz.prog fn] (cap : List Value) (Qs r : List HProp) (hf : Find Qs P r) (p : Thg → Bool)
    (hF : ∀ x ∈ l, Trip Tryz.prog fn ([.agg (thgC x).toArray] ++ cap) Qs (fun v Ps => v = .bool (p x) ∧ Ps = Qs)) :
    Trip Tryz.prog 54 [.slice A l.length c, .func (.func fn) #[] cap.toArray] Qs (fun v Ps => v = .bool (l.all p) ∧ Ps = Qs) := by
  refine Trip.of (m := 9) Tryz.func54 rfl rfl rfl ?_
  intro o Rs
  simp only [List.cons_append, List.nil_append, enumFrom]
  refine go ?_
  refine ⟨?_, by simp⟩ <;> intros
  rename_i b
  have F1 := ct_thg l A c hl P hP 127 [.pointer (some ⟨b, 0, none⟩)] (blk b 94 [.func (.func fn) #[] cap.toArray] :: Qs) (blk b 94 [.func (.func fn) #[] cap.toArray] :: r) (.there hf) (fun x => !p x) (fun x hx => all1_thg x fn cap Qs p b (hF x hx))
  refine W.callp rfl (ent_app (_ :: Qs) Rs) rfl .nil F1 ?_
  rintro _ rfl
  refine go ?_
  refine ⟨?_, by simp⟩ <;> intros
  exact ret1 ⟨by rw [← all_any], rfl⟩ (hh := .drop (ent_app Qs Rs))
theorem all1_lot (x : Lot) (fn : Nat) [hc : Callable Tryz.prog fn] (cap : List Value) (Qs : List HProp) (p : Lot → Bool) (b : Nat) (h : Trip Tryz.prog fn ([.agg (lotC x).toArray] ++ cap) Qs (fun v Ps => v = .bool (p x) ∧ Ps = Qs)) :
    Trip Tryz.prog 149 ([.agg (lotC x).toArray] ++ [.pointer (some ⟨b, 0, none⟩)]) (blk b 108 [.func (.func fn) #[] cap.toArray] :: Qs) (fun v Ps => v = .bool (!p x) ∧ Ps = blk b 108 [.func (.func fn) #[] cap.toArray] :: Qs) := by
  refine Trip.of (m := 8) Tryz.func149 rfl rfl rfl ?_
  intro o Rs
  simp only [List.cons_append, List.nil_append, enumFrom]
  refine go ?_
  refine ⟨?_, by simp⟩ <;> intros
  refine W.lift (lift_in2 _ _ Qs Rs) ?_
  refine W.callv rfl rfl rfl (ent_app Qs _) rfl .nil h ?_
  rintro _ Ps ⟨rfl, e⟩
  rw [e]
  refine W.lift (lift_out2 _ _ Qs Rs) ?_
  refine go ?_
  refine ⟨?_, by simp⟩ <;> intros
  exact ret1 ⟨rfl, rfl⟩ (hh := .drop (.take .here (ent_app _ _)))
theorem all_lot (l : List (Lot)) (A : Option Addr) (c : Nat) (hl : l.length ≤ 1000000) (P : HProp) (hP : Reads P (El) A l) (fn : Nat) [hc : Callable Tryz.prog fn] (cap : List Value) (Qs r : List HProp) (hf : Find Qs P r) (p : Lot → Bool)
    (hF : ∀ x ∈ l, Trip Tryz.prog fn ([.agg (lotC x).toArray] ++ cap) Qs (fun v Ps => v = .bool (p x) ∧ Ps = Qs)) :
    Trip Tryz.prog 67 [.slice A l.length c, .func (.func fn) #[] cap.toArray] Qs (fun v Ps => v = .bool (l.all p) ∧ Ps = Qs) := by
  refine Trip.of (m := 9) Tryz.func67 rfl rfl rfl ?_
  intro o Rs
  simp only [List.cons_append, List.nil_append, enumFrom]
  refine go ?_
  refine ⟨?_, by simp⟩ <;> intros
  rename_i b
  have F1 := ct_lot l A c hl P hP 149 [.pointer (some ⟨b, 0, none⟩)] (blk b 108 [.func (.func fn) #[] cap.toArray] :: Qs) (blk b 108 [.func (.func fn) #[] cap.toArray] :: r) (.there hf) (fun x => !p x) (fun x hx => all1_lot x fn cap Qs p b (hF x hx))
  refine W.callp rfl (ent_app (_ :: Qs) Rs) rfl .nil F1 ?_
  rintro _ rfl
  refine go ?_
  refine ⟨?_, by simp⟩ <;> intros
  exact ret1 ⟨by rw [← all_any], rfl⟩ (hh := .drop (ent_app Qs Rs))
theorem all1_chr (x : Chr × PA) (fn : Nat) [hc : Callable Tryz.prog fn] (cap : List Value) (Qs : List HProp) (p : Chr × PA → Bool) (b : Nat) (h : Trip Tryz.prog fn ([.agg (chrC x.1 x.2).toArray] ++ cap) Qs (fun v Ps => v = .bool (p x) ∧ Ps = Qs)) :
    Trip Tryz.prog 134 ([.agg (chrC x.1 x.2).toArray] ++ [.pointer (some ⟨b, 0, none⟩)]) (blk b 102 [.func (.func fn) #[] cap.toArray] :: Qs) (fun v Ps => v = .bool (!p x) ∧ Ps = blk b 102 [.func (.func fn) #[] cap.toArray] :: Qs) := by
  refine Trip.of (m := 8) Tryz.func134 rfl rfl rfl ?_
  intro o Rs
  simp only [List.cons_append, List.nil_append, enumFrom]
  refine go ?_
  refine ⟨?_, by simp⟩ <;> intros
  refine W.lift (lift_in2 _ _ Qs Rs) ?_
  refine W.callv rfl rfl rfl (ent_app Qs _) rfl .nil h ?_
  rintro _ Ps ⟨rfl, e⟩
  rw [e]
  refine W.lift (lift_out2 _ _ Qs Rs) ?_
  refine go ?_
  refine ⟨?_, by simp⟩ <;> intros
  exact ret1 ⟨rfl, rfl⟩ (hh := .drop (.take .here (ent_app _ _)))
theorem all_chr (l : List (Chr × PA)) (A : Option Addr) (c : Nat) (hl : l.length ≤ 1000000) (P : HProp) (hP : Reads P (Ec) A l) (fn : Nat) [hc : Callable Tryz.prog fn] (cap : List Value) (Qs r : List HProp) (hf : Find Qs P r) (p : Chr × PA → Bool)
    (hF : ∀ x ∈ l, Trip Tryz.prog fn ([.agg (chrC x.1 x.2).toArray] ++ cap) Qs (fun v Ps => v = .bool (p x) ∧ Ps = Qs)) :
    Trip Tryz.prog 61 [.slice A l.length c, .func (.func fn) #[] cap.toArray] Qs (fun v Ps => v = .bool (l.all p) ∧ Ps = Qs) := by
  refine Trip.of (m := 9) Tryz.func61 rfl rfl rfl ?_
  intro o Rs
  simp only [List.cons_append, List.nil_append, enumFrom]
  refine go ?_
  refine ⟨?_, by simp⟩ <;> intros
  rename_i b
  have F1 := ct_chr l A c hl P hP 134 [.pointer (some ⟨b, 0, none⟩)] (blk b 102 [.func (.func fn) #[] cap.toArray] :: Qs) (blk b 102 [.func (.func fn) #[] cap.toArray] :: r) (.there hf) (fun x => !p x) (fun x hx => all1_chr x fn cap Qs p b (hF x hx))
  refine W.callp rfl (ent_app (_ :: Qs) Rs) rfl .nil F1 ?_
  rintro _ rfl
  refine go ?_
  refine ⟨?_, by simp⟩ <;> intros
  exact ret1 ⟨by rw [← all_any], rfl⟩ (hh := .drop (ent_app Qs Rs))
theorem all1_hse (x : Hse × PA) (fn : Nat) [hc : Callable Tryz.prog fn] (cap : List Value) (Qs : List HProp) (p : Hse × PA → Bool) (b : Nat) (h : Trip Tryz.prog fn ([.agg (hseC x.1 x.2).toArray] ++ cap) Qs (fun v Ps => v = .bool (p x) ∧ Ps = Qs)) :
    Trip Tryz.prog 145 ([.agg (hseC x.1 x.2).toArray] ++ [.pointer (some ⟨b, 0, none⟩)]) (blk b 105 [.func (.func fn) #[] cap.toArray] :: Qs) (fun v Ps => v = .bool (!p x) ∧ Ps = blk b 105 [.func (.func fn) #[] cap.toArray] :: Qs) := by
  refine Trip.of (m := 8) Tryz.func145 rfl rfl rfl ?_
  intro o Rs
  simp only [List.cons_append, List.nil_append, enumFrom]
  refine go ?_
  refine ⟨?_, by simp⟩ <;> intros
  refine W.lift (lift_in2 _ _ Qs Rs) ?_
  refine W.callv rfl rfl rfl (ent_app Qs _) rfl .nil h ?_
  rintro _ Ps ⟨rfl, e⟩
  rw [e]
  refine W.lift (lift_out2 _ _ Qs Rs) ?_
  refine go ?_
  refine ⟨?_, by simp⟩ <;> intros
  exact ret1 ⟨rfl, rfl⟩ (hh := .drop (.take .here (ent_app _ _)))
theorem all_hse (l : List (Hse × PA)) (A : Option Addr) (c : Nat) (hl : l.length ≤ 1000000) (P : HProp) (hP : Reads P (Eh) A l) (fn : Nat) [hc : Callable Tryz.prog fn] (cap : List Value) (Qs r : List HProp) (hf : Find Qs P r) (p : Hse × PA → Bool)
    (hF : ∀ x ∈ l, Trip Tryz.prog fn ([.agg (hseC x.1 x.2).toArray] ++ cap) Qs (fun v Ps => v = .bool (p x) ∧ Ps = Qs)) :
    Trip Tryz.prog 64 [.slice A l.length c, .func (.func fn) #[] cap.toArray] Qs (fun v Ps => v = .bool (l.all p) ∧ Ps = Qs) := by
  refine Trip.of (m := 9) Tryz.func64 rfl rfl rfl ?_
  intro o Rs
  simp only [List.cons_append, List.nil_append, enumFrom]
  refine go ?_
  refine ⟨?_, by simp⟩ <;> intros
  rename_i b
  have F1 := ct_hse l A c hl P hP 145 [.pointer (some ⟨b, 0, none⟩)] (blk b 105 [.func (.func fn) #[] cap.toArray] :: Qs) (blk b 105 [.func (.func fn) #[] cap.toArray] :: r) (.there hf) (fun x => !p x) (fun x hx => all1_hse x fn cap Qs p b (hF x hx))
  refine W.callp rfl (ent_app (_ :: Qs) Rs) rfl .nil F1 ?_
  rintro _ rfl
  refine go ?_
  refine ⟨?_, by simp⟩ <;> intros
  exact ret1 ⟨by rw [← all_any], rfl⟩ (hh := .drop (ent_app Qs Rs))
end Go.Proofs.YtlibnpdbcjgegaaGreat
namespace Go.Proofs.YtlibnpdbcjgegaaGreat
open Go.SL
set_option linter.unusedVariables false
set_option linter.unusedSimpArgs false
set_option maxHeartbeats 8000000
set_option maxRecDepth 20000
theorem key_rm (x : Rm) : Trip Tryz.prog 167 [.agg (rmC x).toArray] [] (fun v Ps => v = .int .i64 (x.id) ∧ Ps = []) := by
  refine Trip.of (m := 5) Tryz.func167 rfl rfl rfl ?_
  intro o Rs
  simp only [List.cons_append, List.nil_append, enumFrom]
  refine go ?_
  simp
theorem key_pr (x : Pro) : Trip Tryz.prog 169 [.agg (proC x).toArray] [] (fun v Ps => v = .int .i64 (x.id) ∧ Ps = []) := by
  refine Trip.of (m := 5) Tryz.func169 rfl rfl rfl ?_
  intro o Rs
  simp only [List.cons_append, List.nil_append, enumFrom]
  refine go ?_
  simp
theorem key_mo (x : Mpr) : Trip Tryz.prog 171 [.agg (mprC x).toArray] [] (fun v Ps => v = .int .i64 (x.id) ∧ Ps = []) := by
  refine Trip.of (m := 5) Tryz.func171 rfl rfl rfl ?_
  intro o Rs
  simp only [List.cons_append, List.nil_append, enumFrom]
  refine go ?_
  simp
theorem key_rc (x : Rcp × PA) : Trip Tryz.prog 173 [.agg (rcpC x.1 x.2).toArray] [] (fun v Ps => v = .int .i64 (x.1.out) ∧ Ps = []) := by
  refine Trip.of (m := 5) Tryz.func173 rfl rfl rfl ?_
  intro o Rs
  simp only [List.cons_append, List.nil_append, enumFrom]
  refine go ?_
  simp
theorem key_qu (x : Qst) : Trip Tryz.prog 175 [.agg (qstC x).toArray] [] (fun v Ps => v = .int .i64 (x.id) ∧ Ps = []) := by
  refine Trip.of (m := 5) Tryz.func175 rfl rfl rfl ?_
  intro o Rs
  simp only [List.cons_append, List.nil_append, enumFrom]
  refine go ?_
  simp
theorem key_sh (x : Shp × PA) : Trip Tryz.prog 177 [.agg (shpC x.1 x.2).toArray] [] (fun v Ps => v = .int .i64 (x.1.room) ∧ Ps = []) := by
  refine Trip.of (m := 5) Tryz.func177 rfl rfl rfl ?_
  intro o Rs
  simp only [List.cons_append, List.nil_append, enumFrom]
  refine go ?_
  simp
theorem key_in (x : Int) : Trip Tryz.prog 207 [.int .i64 x] [] (fun v Ps => v = .int .i64 x ∧ Ps = []) := by
  refine Trip.of (m := 4) Tryz.func207 rfl rfl rfl ?_
  intro o Rs
  simp only [List.cons_append, List.nil_append, enumFrom]
  refine go ?_
  simp
theorem rise_rm (l : List (Rm)) (A : Option Addr) (c : Nat) (most : Nat) (h : Ri (l.map fun x => x.id) most) (hm : most ≤ 1000) (P : HProp) (hP : Reads P (Xr) A l) :
    Trip Tryz.prog 166 [.slice A l.length c, .int .i64 (most : Int), .func (.func 167) #[] #[]] [P] (fun v Ps => v = .bool true ∧ Ps = [P]) := by
  refine Trip.of (m := 43) Tryz.func166 rfl rfl rfl ?_
  intro o Rs
  simp only [List.cons_append, List.nil_append, enumFrom]
  haveI : Plans 4 [17] [2, 3, 11, 17, 18] [[0, 1, 2, 3, 4, 5, 6, 7, 8, 9, 10, 12, 13, 14, 15, 16, 11, 17, 18, 19, 20, 21], [0, 1, 2, 3, 4, 5, 6, 7, 8, 9, 10, 12, 13, 14, 15, 16, 17, 11, 18, 19, 20, 21]] := ⟨⟩
  have hll : l.length ≤ most := by have := h.len; rwa [List.length_map] at this
  refine go ?_
  refine ⟨?_, by simp⟩ <;> intros
  refine loop (fun k => k ≤ l.length) (fun k => [(0, .slice A l.length c), (1, .int .i64 (most : Int)), (2, .func (.func 167) #[] #[]), (9, .slice A l.length c), (10, .int .i64 (l.length : Int)), (11, .int .i64 (k : Int))]) (fun k => P :: Rs) (fun k => l.length - k) 0 (Nat.zero_le _) fun k h1 => ?_
  by_cases hk : k < l.length
  · obtain ⟨x, hx⟩ : ∃ x, l[k]? = some x := ⟨_, List.getElem?_eq_getElem hk⟩
    have hid := h.id (x.id) (List.mem_map.2 ⟨x, List.mem_of_getElem? hx, rfl⟩)
    have F1 := key_rm x
    have F2 := id_yes (x.id) hid
    by_cases h0 : k = 0
    · subst h0
      refine go ?_
      (repeat' (first | exact trivial | apply And.intro | intro _))
      all_goals exact rnd 1 hk (by omega)
    · obtain ⟨y, hy⟩ : ∃ y, l[k - 1]? = some y := ⟨_, List.getElem?_eq_getElem (by omega)⟩
      have hlt := h.up (k - 1) ((fun x : Rm => x.id) y) (x.id) (by rw [List.getElem?_map, hy]; rfl) (by rw [show k - 1 + 1 = k from by omega, List.getElem?_map, hx]; rfl)
      have hy2 : l[((k : Int) - 1).toNat]? = some y := by rw [show ((k : Int) - 1).toNat = k - 1 from by omega]; exact hy
      have F3 := key_rm y
      simp only at hlt
      refine go ?_
      (repeat' (first | exact trivial | apply And.intro | intro _))
      all_goals first
        | (exfalso; omega)
        | exact rnd (k + 1) hk (by omega)
  · refine go ?_
    refine ⟨?_, by simp⟩ <;> intros
    rw [decide_eq_true (by omega)]
theorem rise_pr (l : List (Pro)) (A : Option Addr) (c : Nat) (most : Nat) (h : Ri (l.map fun x => x.id) most) (hm : most ≤ 1000) (P : HProp) (hP : Reads P (Xp) A l) :
    Trip Tryz.prog 168 [.slice A l.length c, .int .i64 (most : Int), .func (.func 169) #[] #[]] [P] (fun v Ps => v = .bool true ∧ Ps = [P]) := by
  refine Trip.of (m := 43) Tryz.func168 rfl rfl rfl ?_
  intro o Rs
  simp only [List.cons_append, List.nil_append, enumFrom]
  haveI : Plans 4 [17] [2, 3, 11, 17, 18] [[0, 1, 2, 3, 4, 5, 6, 7, 8, 9, 10, 12, 13, 14, 15, 16, 11, 17, 18, 19, 20, 21], [0, 1, 2, 3, 4, 5, 6, 7, 8, 9, 10, 12, 13, 14, 15, 16, 17, 11, 18, 19, 20, 21]] := ⟨⟩
  have hll : l.length ≤ most := by have := h.len; rwa [List.length_map] at this
  refine go ?_
  refine ⟨?_, by simp⟩ <;> intros
  refine loop (fun k => k ≤ l.length) (fun k => [(0, .slice A l.length c), (1, .int .i64 (most : Int)), (2, .func (.func 169) #[] #[]), (9, .slice A l.length c), (10, .int .i64 (l.length : Int)), (11, .int .i64 (k : Int))]) (fun k => P :: Rs) (fun k => l.length - k) 0 (Nat.zero_le _) fun k h1 => ?_
  by_cases hk : k < l.length
  · obtain ⟨x, hx⟩ : ∃ x, l[k]? = some x := ⟨_, List.getElem?_eq_getElem hk⟩
    have hid := h.id (x.id) (List.mem_map.2 ⟨x, List.mem_of_getElem? hx, rfl⟩)
    have F1 := key_pr x
    have F2 := id_yes (x.id) hid
    by_cases h0 : k = 0
    · subst h0
      refine go ?_
      (repeat' (first | exact trivial | apply And.intro | intro _))
      all_goals exact rnd 1 hk (by omega)
    · obtain ⟨y, hy⟩ : ∃ y, l[k - 1]? = some y := ⟨_, List.getElem?_eq_getElem (by omega)⟩
      have hlt := h.up (k - 1) ((fun x : Pro => x.id) y) (x.id) (by rw [List.getElem?_map, hy]; rfl) (by rw [show k - 1 + 1 = k from by omega, List.getElem?_map, hx]; rfl)
      have hy2 : l[((k : Int) - 1).toNat]? = some y := by rw [show ((k : Int) - 1).toNat = k - 1 from by omega]; exact hy
      have F3 := key_pr y
      simp only at hlt
      refine go ?_
      (repeat' (first | exact trivial | apply And.intro | intro _))
      all_goals first
        | (exfalso; omega)
        | exact rnd (k + 1) hk (by omega)
  · refine go ?_
    refine ⟨?_, by simp⟩ <;> intros
    rw [decide_eq_true (by omega)]
theorem rise_mo (l : List (Mpr)) (A : Option Addr) (c : Nat) (most : Nat) (h : Ri (l.map fun x => x.id) most) (hm : most ≤ 1000) (P : HProp) (hP : Reads P (Xm) A l) :
    Trip Tryz.prog 170 [.slice A l.length c, .int .i64 (most : Int), .func (.func 171) #[] #[]] [P] (fun v Ps => v = .bool true ∧ Ps = [P]) := by
  refine Trip.of (m := 43) Tryz.func170 rfl rfl rfl ?_
  intro o Rs
  simp only [List.cons_append, List.nil_append, enumFrom]
  haveI : Plans 4 [17] [2, 3, 11, 17, 18] [[0, 1, 2, 3, 4, 5, 6, 7, 8, 9, 10, 12, 13, 14, 15, 16, 11, 17, 18, 19, 20, 21], [0, 1, 2, 3, 4, 5, 6, 7, 8, 9, 10, 12, 13, 14, 15, 16, 17, 11, 18, 19, 20, 21]] := ⟨⟩
  have hll : l.length ≤ most := by have := h.len; rwa [List.length_map] at this
  refine go ?_
  refine ⟨?_, by simp⟩ <;> intros
  refine loop (fun k => k ≤ l.length) (fun k => [(0, .slice A l.length c), (1, .int .i64 (most : Int)), (2, .func (.func 171) #[] #[]), (9, .slice A l.length c), (10, .int .i64 (l.length : Int)), (11, .int .i64 (k : Int))]) (fun k => P :: Rs) (fun k => l.length - k) 0 (Nat.zero_le _) fun k h1 => ?_
  by_cases hk : k < l.length
  · obtain ⟨x, hx⟩ : ∃ x, l[k]? = some x := ⟨_, List.getElem?_eq_getElem hk⟩
    have hid := h.id (x.id) (List.mem_map.2 ⟨x, List.mem_of_getElem? hx, rfl⟩)
    have F1 := key_mo x
    have F2 := id_yes (x.id) hid
    by_cases h0 : k = 0
    · subst h0
      refine go ?_
      (repeat' (first | exact trivial | apply And.intro | intro _))
      all_goals exact rnd 1 hk (by omega)
    · obtain ⟨y, hy⟩ : ∃ y, l[k - 1]? = some y := ⟨_, List.getElem?_eq_getElem (by omega)⟩
      have hlt := h.up (k - 1) ((fun x : Mpr => x.id) y) (x.id) (by rw [List.getElem?_map, hy]; rfl) (by rw [show k - 1 + 1 = k from by omega, List.getElem?_map, hx]; rfl)
      have hy2 : l[((k : Int) - 1).toNat]? = some y := by rw [show ((k : Int) - 1).toNat = k - 1 from by omega]; exact hy
      have F3 := key_mo y
      simp only at hlt
      refine go ?_
      (repeat' (first | exact trivial | apply And.intro | intro _))
      all_goals first
        | (exfalso; omega)
        | exact rnd (k + 1) hk (by omega)
  · refine go ?_
    refine ⟨?_, by simp⟩ <;> intros
    rw [decide_eq_true (by omega)]
theorem rise_rc (l : List (Rcp × PA)) (A : Option Addr) (c : Nat) (most : Nat) (h : Ri (l.map fun x => x.1.out) most) (hm : most ≤ 1000) (P : HProp) (hP : Reads P (Xc) A l) :
    Trip Tryz.prog 172 [.slice A l.length c, .int .i64 (most : Int), .func (.func 173) #[] #[]] [P] (fun v Ps => v = .bool true ∧ Ps = [P]) := by
  refine Trip.of (m := 43) Tryz.func172 rfl rfl rfl ?_
  intro o Rs
  simp only [List.cons_append, List.nil_append, enumFrom]
  haveI : Plans 4 [17] [2, 3, 11, 17, 18] [[0, 1, 2, 3, 4, 5, 6, 7, 8, 9, 10, 12, 13, 14, 15, 16, 11, 17, 18, 19, 20, 21], [0, 1, 2, 3, 4, 5, 6, 7, 8, 9, 10, 12, 13, 14, 15, 16, 17, 11, 18, 19, 20, 21]] := ⟨⟩
  have hll : l.length ≤ most := by have := h.len; rwa [List.length_map] at this
  refine go ?_
  refine ⟨?_, by simp⟩ <;> intros
  refine loop (fun k => k ≤ l.length) (fun k => [(0, .slice A l.length c), (1, .int .i64 (most : Int)), (2, .func (.func 173) #[] #[]), (9, .slice A l.length c), (10, .int .i64 (l.length : Int)), (11, .int .i64 (k : Int))]) (fun k => P :: Rs) (fun k => l.length - k) 0 (Nat.zero_le _) fun k h1 => ?_
  by_cases hk : k < l.length
  · obtain ⟨x, hx⟩ : ∃ x, l[k]? = some x := ⟨_, List.getElem?_eq_getElem hk⟩
    have hid := h.id (x.1.out) (List.mem_map.2 ⟨x, List.mem_of_getElem? hx, rfl⟩)
    have F1 := key_rc x
    have F2 := id_yes (x.1.out) hid
    by_cases h0 : k = 0
    · subst h0
      refine go ?_
      (repeat' (first | exact trivial | apply And.intro | intro _))
      all_goals exact rnd 1 hk (by omega)
    · obtain ⟨y, hy⟩ : ∃ y, l[k - 1]? = some y := ⟨_, List.getElem?_eq_getElem (by omega)⟩
      have hlt := h.up (k - 1) ((fun x : Rcp × PA => x.1.out) y) (x.1.out) (by rw [List.getElem?_map, hy]; rfl) (by rw [show k - 1 + 1 = k from by omega, List.getElem?_map, hx]; rfl)
      have hy2 : l[((k : Int) - 1).toNat]? = some y := by rw [show ((k : Int) - 1).toNat = k - 1 from by omega]; exact hy
      have F3 := key_rc y
      simp only at hlt
      refine go ?_
      (repeat' (first | exact trivial | apply And.intro | intro _))
      all_goals first
        | (exfalso; omega)
        | exact rnd (k + 1) hk (by omega)
  · refine go ?_
    refine ⟨?_, by simp⟩ <;> intros
    rw [decide_eq_true (by omega)]
theorem rise_qu (l : List (Qst)) (A : Option Addr) (c : Nat) (most : Nat) (h : Ri (l.map fun x => x.id) most) (hm : most ≤ 1000) (P : HProp) (hP : Reads P (Xq) A l) :
    Trip Tryz.prog 174 [.slice A l.length c, .int .i64 (most : Int), .func (.func 175) #[] #[]] [P] (fun v Ps => v = .bool true ∧ Ps = [P]) := by
  refine Trip.of (m := 43) Tryz.func174 rfl rfl rfl ?_
  intro o Rs
  simp only [List.cons_append, List.nil_append, enumFrom]
  haveI : Plans 4 [17] [2, 3, 11, 17, 18] [[0, 1, 2, 3, 4, 5, 6, 7, 8, 9, 10, 12, 13, 14, 15, 16, 11, 17, 18, 19, 20, 21], [0, 1, 2, 3, 4, 5, 6, 7, 8, 9, 10, 12, 13, 14, 15, 16, 17, 11, 18, 19, 20, 21]] := ⟨⟩
  have hll : l.length ≤ most := by have := h.len; rwa [List.length_map] at this
  refine go ?_
  refine ⟨?_, by simp⟩ <;> intros
  refine loop (fun k => k ≤ l.length) (fun k => [(0, .slice A l.length c), (1, .int .i64 (most : Int)), (2, .func (.func 175) #[] #[]), (9, .slice A l.length c), (10, .int .i64 (l.length : Int)), (11, .int .i64 (k : Int))]) (fun k => P :: Rs) (fun k => l.length - k) 0 (Nat.zero_le _) fun k h1 => ?_
  by_cases hk : k < l.length
  · obtain ⟨x, hx⟩ : ∃ x, l[k]? = some x := ⟨_, List.getElem?_eq_getElem hk⟩
    have hid := h.id (x.id) (List.mem_map.2 ⟨x, List.mem_of_getElem? hx, rfl⟩)
    have F1 := key_qu x
    have F2 := id_yes (x.id) hid
    by_cases h0 : k = 0
    · subst h0
      refine go ?_
      (repeat' (first | exact trivial | apply And.intro | intro _))
      all_goals exact rnd 1 hk (by omega)
    · obtain ⟨y, hy⟩ : ∃ y, l[k - 1]? = some y := ⟨_, List.getElem?_eq_getElem (by omega)⟩
      have hlt := h.up (k - 1) ((fun x : Qst => x.id) y) (x.id) (by rw [List.getElem?_map, hy]; rfl) (by rw [show k - 1 + 1 = k from by omega, List.getElem?_map, hx]; rfl)
      have hy2 : l[((k : Int) - 1).toNat]? = some y := by rw [show ((k : Int) - 1).toNat = k - 1 from by omega]; exact hy
      have F3 := key_qu y
      simp only at hlt
      refine go ?_
      (repeat' (first | exact trivial | apply And.intro | intro _))
      all_goals first
        | (exfalso; omega)
        | exact rnd (k + 1) hk (by omega)
  · refine go ?_
    refine ⟨?_, by simp⟩ <;> intros
    rw [decide_eq_true (by omega)]
theorem rise_sh (l : List (Shp × PA)) (A : Option Addr) (c : Nat) (most : Nat) (h : Ri (l.map fun x => x.1.room) most) (hm : most ≤ 1000) (P : HProp) (hP : Reads P (Xs) A l) :
    Trip Tryz.prog 176 [.slice A l.length c, .int .i64 (most : Int), .func (.func 177) #[] #[]] [P] (fun v Ps => v = .bool true ∧ Ps = [P]) := by
  refine Trip.of (m := 43) Tryz.func176 rfl rfl rfl ?_
  intro o Rs
  simp only [List.cons_append, List.nil_append, enumFrom]
  haveI : Plans 4 [17] [2, 3, 11, 17, 18] [[0, 1, 2, 3, 4, 5, 6, 7, 8, 9, 10, 12, 13, 14, 15, 16, 11, 17, 18, 19, 20, 21], [0, 1, 2, 3, 4, 5, 6, 7, 8, 9, 10, 12, 13, 14, 15, 16, 17, 11, 18, 19, 20, 21]] := ⟨⟩
  have hll : l.length ≤ most := by have := h.len; rwa [List.length_map] at this
  refine go ?_
  refine ⟨?_, by simp⟩ <;> intros
  refine loop (fun k => k ≤ l.length) (fun k => [(0, .slice A l.length c), (1, .int .i64 (most : Int)), (2, .func (.func 177) #[] #[]), (9, .slice A l.length c), (10, .int .i64 (l.length : Int)), (11, .int .i64 (k : Int))]) (fun k => P :: Rs) (fun k => l.length - k) 0 (Nat.zero_le _) fun k h1 => ?_
  by_cases hk : k < l.length
  · obtain ⟨x, hx⟩ : ∃ x, l[k]? = some x := ⟨_, List.getElem?_eq_getElem hk⟩
    have hid := h.id (x.1.room) (List.mem_map.2 ⟨x, List.mem_of_getElem? hx, rfl⟩)
    have F1 := key_sh x
    have F2 := id_yes (x.1.room) hid
    by_cases h0 : k = 0
    · subst h0
      refine go ?_
      (repeat' (first | exact trivial | apply And.intro | intro _))
      all_goals exact rnd 1 hk (by omega)
    · obtain ⟨y, hy⟩ : ∃ y, l[k - 1]? = some y := ⟨_, List.getElem?_eq_getElem (by omega)⟩
      have hlt := h.up (k - 1) ((fun x : Shp × PA => x.1.room) y) (x.1.room) (by rw [List.getElem?_map, hy]; rfl) (by rw [show k - 1 + 1 = k from by omega, List.getElem?_map, hx]; rfl)
      have hy2 : l[((k : Int) - 1).toNat]? = some y := by rw [show ((k : Int) - 1).toNat = k - 1 from by omega]; exact hy
      have F3 := key_sh y
      simp only at hlt
      refine go ?_
      (repeat' (first | exact trivial | apply And.intro | intro _))
      all_goals first
        | (exfalso; omega)
        | exact rnd (k + 1) hk (by omega)
  · refine go ?_
    refine ⟨?_, by simp⟩ <;> intros
    rw [decide_eq_true (by omega)]
theorem rise_in (l : List (Int)) (A : Option Addr) (c : Nat) (most : Nat) (h : Ri (l.map fun x => x) most) (hm : most ≤ 1000) (P : HProp) (hP : Reads P (E64) A l) :
    Trip Tryz.prog 206 [.slice A l.length c, .int .i64 (most : Int), .func (.func 207) #[] #[]] [P] (fun v Ps => v = .bool true ∧ Ps = [P]) := by
  refine Trip.of (m := 43) Tryz.func206 rfl rfl rfl ?_
  intro o Rs
  simp only [List.cons_append, List.nil_append, enumFrom]
  haveI : Plans 4 [] [2, 3, 11, 17, 18] [[0, 1, 2, 3, 4, 5, 6, 7, 8, 9, 10, 12, 13, 14, 15, 16, 11, 17, 18, 19, 20, 21], [0, 1, 2, 3, 4, 5, 6, 7, 8, 9, 10, 12, 13, 14, 15, 16, 17, 11, 18, 19, 20, 21]] := ⟨⟩
  have hll : l.length ≤ most := by have := h.len; rwa [List.length_map] at this
  refine go ?_
  refine ⟨?_, by simp⟩ <;> intros
  refine loop (fun k => k ≤ l.length) (fun k => [(0, .slice A l.length c), (1, .int .i64 (most : Int)), (2, .func (.func 207) #[] #[]), (9, .slice A l.length c), (10, .int .i64 (l.length : Int)), (11, .int .i64 (k : Int))]) (fun k => P :: Rs) (fun k => l.length - k) 0 (Nat.zero_le _) fun k h1 => ?_
  by_cases hk : k < l.length
  · obtain ⟨x, hx⟩ : ∃ x, l[k]? = some x := ⟨_, List.getElem?_eq_getElem hk⟩
    have hid := h.id (x) (List.mem_map.2 ⟨x, List.mem_of_getElem? hx, rfl⟩)
    have F1 := key_in x
    have F2 := id_yes (x) hid
    by_cases h0 : k = 0
    · subst h0
      refine go ?_
      (repeat' (first | exact trivial | apply And.intro | intro _))
      all_goals exact rnd 1 hk (by omega)
    · obtain ⟨y, hy⟩ : ∃ y, l[k - 1]? = some y := ⟨_, List.getElem?_eq_getElem (by omega)⟩
      have hlt := h.up (k - 1) ((fun x : Int => x) y) (x) (by rw [List.getElem?_map, hy]; rfl) (by rw [show k - 1 + 1 = k from by omega, List.getElem?_map, hx]; rfl)
      have hy2 : l[((k : Int) - 1).toNat]? = some y := by rw [show ((k : Int) - 1).toNat = k - 1 from by omega]; exact hy
      have F3 := key_in y
      simp only at hlt
      refine go ?_
      (repeat' (first | exact trivial | apply And.intro | intro _))
      all_goals first
        | (exfalso; omega)
        | exact rnd (k + 1) hk (by omega)
  · refine go ?_
    refine ⟨?_, by simp⟩ <;> intros
    rw [decide_eq_true (by omega)]
end Go.Proofs.YtlibnpdbcjgegaaGreat
namespace Go.Proofs.YtlibnpdbcjgegaaGreat
open Go.SL
set_option linter.unusedVariables false
set_option linter.unusedSimpArgs false
set_option maxHeartbeats 8000000
set_option maxRecDepth 20000
theorem word_len {s : Tx} (h : wordB s = true) : s.length ≤ 24 := by
  simp only [wordB, Bool.and_eq_true, decide_eq_true_eq] at h; exact h.2
section
theorem things_yes (d : Nat) (m : Tay) (t : Tab) (g : Good t) (P : HProp) [hp : RT P d m t] : Trip Tryz.prog 178 [.pointer (some ⟨d, 0, none⟩)] [P] (fun v Ps => v = .bool true ∧ Ps = [P]) := by
  refine Trip.of (m := 124) Tryz.func178 rfl rfl rfl ?_
  intro o Rs
  simp only [List.cons_append, List.nil_append, enumFrom]
  have b1 : t.rooms.length ≤ 60 := by have := g.rr.len; rwa [List.length_map] at this
  have b2 : t.protos.length ≤ 60 := by have := g.rp.len; rwa [List.length_map] at this
  have b3 : t.mobs.length ≤ 60 := by have := g.rm.len; rwa [List.length_map] at this
  refine go ?_
  refine ⟨?_, by simp⟩ <;> intros
  refine loop (fun k => k ≤ t.rooms.length) (fun k => [(0, .pointer (some ⟨d, 0, none⟩)), (15, .slice m.roA t.rooms.length m.roC), (16, .int .i64 (t.rooms.length : Int)), (17, .int .i64 (k : Int))]) (fun k => P :: Rs) (fun k => t.rooms.length - k) 0 (Nat.zero_le _) fun k h1 => ?_
  by_cases hk : k < t.rooms.length
  · obtain ⟨x, hx⟩ : ∃ x, t.rooms[k]? = some x := ⟨_, List.getElem?_eq_getElem hk⟩
    have hg := g.ro x (List.mem_of_getElem? hx)
    have hw := word_len hg.nm
    have F1 := Word_spec x.name (by omega)
    rw [hg.nm] at F1
    have F2 := in_yes x.kind 0 5 hg.kd.1 hg.kd.2
    have F3 := in_yes x.price 0 1073741824 hg.pr.1 hg.pr.2
    refine go ?_
    refine ⟨?_, by simp⟩ <;> intros
    rename_i b
    refine loop (σ := Nat) (fun j => j ≤ 6) (fun j => [(0, .pointer (some ⟨d, 0, none⟩)), (5, .bool true), (15, .slice m.roA t.rooms.length m.roC), (16, .int .i64 (t.rooms.length : Int)), (17, .int .i64 (k : Int)), (35, .agg #[.int .i64 x.e0, .int .i64 x.e1, .int .i64 x.e2, .int .i64 x.e3, .int .i64 x.e4, .int .i64 x.e5]), (36, .int .i64 (j : Int))]) (fun j => P :: Rs) (fun j => 6 - j) 0 (Nat.zero_le _) fun j hj => ?_
    by_cases hj2 : j < 6
    · obtain ⟨v, hv⟩ : ∃ v, x.exits[j]? = some v := ⟨_, List.getElem?_eq_getElem hj2⟩
      have he := (hg.ex v (List.mem_of_getElem? hv)).1
      have hv2 : ([.int .i64 x.e0, .int .i64 x.e1, .int .i64 x.e2, .int .i64 x.e3, .int .i64 x.e4, .int .i64 x.e5] : List Value)[j]? = some (.int .i64 v) := by
        have : ([.int .i64 x.e0, .int .i64 x.e1, .int .i64 x.e2, .int .i64 x.e3, .int .i64 x.e4, .int .i64 x.e5] : List Value) = x.exits.map (.int .i64) := rfl
        rw [this, List.getElem?_map, hv]; rfl
      have F4 := in_yes v 0 1000 he.1 he.2
      refine go ?_
      refine ⟨?_, by simp⟩ <;> intros
      exact rnd (j + 1) (by omega) (by omega)
    · refine go ?_
      refine ⟨?_, by simp⟩ <;> intros
      exact rnd (k + 1) hk (by omega)
  refine go ?_
  refine ⟨?_, by simp⟩ <;> intros
  refine loop (fun k => k ≤ t.protos.length) (fun k => [(0, .pointer (some ⟨d, 0, none⟩)), (51, .slice m.prA t.protos.length m.prC), (52, .int .i64 (t.protos.length : Int)), (53, .int .i64 (k : Int))]) (fun k => P :: Rs) (fun k => t.protos.length - k) 0 (Nat.zero_le _) fun k h1 => ?_
  by_cases hk : k < t.protos.length
  · obtain ⟨x, hx⟩ : ∃ x, t.protos[k]? = some x := ⟨_, List.getElem?_eq_getElem hk⟩
    have hg := g.po x (List.mem_of_getElem? hx)
    have hw := word_len hg.nm
    have F1 := Word_spec x.name (by omega)
    rw [hg.nm] at F1
    have F2 := in_yes x.slot 0 2 hg.sl.1 hg.sl.2
    have F3 := in_yes x.power 0 100 hg.pw.1 hg.pw.2
    have F4 := in_yes x.price 0 1073741824 hg.pr.1 hg.pr.2
    refine go ?_
    refine ⟨?_, by simp⟩ <;> intros
    exact rnd (k + 1) hk (by omega)
  refine go ?_
  refine ⟨?_, by simp⟩ <;> intros
  refine loop (fun k => k ≤ t.mobs.length) (fun k => [(0, .pointer (some ⟨d, 0, none⟩)), (83, .slice m.moA t.mobs.length m.moC), (84, .int .i64 (t.mobs.length : Int)), (85, .int .i64 (k : Int))]) (fun k => P :: Rs) (fun k => t.mobs.length - k) 0 (Nat.zero_le _) fun k h1 => ?_
  by_cases hk : k < t.mobs.length
  · obtain ⟨x, hx⟩ : ∃ x, t.mobs[k]? = some x := ⟨_, List.getElem?_eq_getElem hk⟩
    have hg := g.mo x (List.mem_of_getElem? hx)
    have hw := word_len hg.nm
    have F1 := Word_spec x.name (by omega)
    rw [hg.nm] at F1
    have F2 := id_yes x.home hg.hi
    have F3 := in_yes x.hp 1 10000 hg.hp.1 hg.hp.2
    have F4 := in_yes x.power 0 100 hg.pw.1 hg.pw.2
    have F5 := in_yes x.xp 0 10000 hg.xp.1 hg.xp.2
    have F6 := in_yes x.gold 0 1073741824 hg.go.1 hg.go.2
    refine go ?_
    refine ⟨?_, by simp⟩ <;> intros
    exact rnd (k + 1) hk (by omega)
  refine go ?_
  simp
theorem isNaN_no (a : Int) : Trip Tryz.prog 268 [.int .i64 a] [] (fun v Ps => v = .bool false ∧ Ps = []) := by
  refine Trip.of (m := 6) Tryz.func268 rfl rfl rfl ?_
  intro o Rs
  simp only [List.cons_append, List.nil_append, enumFrom]
  refine go ?_
  simp
theorem less_no (a b : Int) (h : b ≤ a) : Trip Tryz.prog 240 [.int .i64 a, .int .i64 b] [] (fun v Ps => v = .bool false ∧ Ps = []) := by
  refine Trip.of (m := 17) Tryz.func240 rfl rfl rfl ?_
  intro o Rs
  simp only [List.cons_append, List.nil_append, enumFrom]
  have F1 := isNaN_no a
  have F2 := isNaN_no b
  refine go ?_
  refine ⟨?_, by simp⟩ <;> intros
  rw [decide_eq_false (by omega)]
theorem sorted_yes (l : List Int) (A : Option Addr) (c : Nat) (hl : l.length ≤ 1000) (hu : ∀ (k : Nat) (x y : Int), l[k]? = some x → l[k + 1]? = some y → x ≤ y) (R : HProp) (hR : Reads R E64 A l) :
    Trip Tryz.prog 203 [.slice A l.length c] [R] (fun v Ps => v = .bool true ∧ Ps = [R]) := by
  refine Trip.of (m := 21) Tryz.func203 rfl rfl rfl ?_
  intro o Rs
  simp only [List.cons_append, List.nil_append, enumFrom]
  haveI : Plan 4 [14, 17, 19] [0, 1, 2, 3, 4, 5, 6, 7, 8, 9] := ⟨⟩
  refine go ?_
  refine ⟨?_, by simp⟩ <;> intros
  refine loop (σ := Int) (fun k => -1 ≤ k ∧ k < l.length) (fun k => [(0, .slice A l.length c), (3, .int .i64 k)]) (fun k => R :: Rs) (fun k => k.toNat) ((l.length : Int) - 1) ⟨by omega, by omega⟩ fun k ⟨h1, h2⟩ => ?_
  by_cases hk : 0 < k
  · obtain ⟨x, hx⟩ : ∃ x, l[k.toNat]? = some x := ⟨_, List.getElem?_eq_getElem (by omega)⟩
    obtain ⟨y, hy⟩ : ∃ y, l[(k - 1).toNat]? = some y := ⟨_, List.getElem?_eq_getElem (by omega)⟩
    have hle := hu (k - 1).toNat y x hy (by rw [show (k - 1).toNat + 1 = k.toNat from by omega]; exact hx)
    have F1 := less_no x y hle
    refine go ?_
    (repeat' (first | exact trivial | apply And.intro | intro _))
    all_goals first
      | (exfalso; omega)
      | exact rnd (k - 1) ⟨by omega, by omega⟩ (by omega)
  · refine go ?_
    simp
theorem notid (n : Int) (h : 1 ≤ n ∧ n ≤ 1000) : Trip Tryz.prog 205 [.int .i64 n] [] (fun v Ps => v = .bool false ∧ Ps = []) := by
  refine Trip.of (m := 6) Tryz.func205 rfl rfl rfl ?_
  intro o Rs
  simp only [List.cons_append, List.nil_append, enumFrom]
  have F1 := id_yes n h
  refine go ?_
  simp
end
end Go.Proofs.YtlibnpdbcjgegaaGreat
namespace Go.Proofs.YtlibnpdbcjgegaaGreat
open Go.SL
set_option linter.unusedVariables false
set_option linter.unusedSimpArgs false
set_option maxHeartbeats 8000000
set_option maxRecDepth 20000
theorem plans_yes (d : Nat) (m : Tay) (t : Tab) (g : Good t) (lt : TLaid m t) (P : HProp) [hp : RT P d m t] : Trip Tryz.prog 179 [.pointer (some ⟨d, 0, none⟩)] [P] (fun v Ps => v = .bool true ∧ Ps = [P]) := by
  refine Trip.of (m := 87) Tryz.func179 rfl rfl rfl ?_
  intro o Rs
  simp only [List.cons_append, List.nil_append, enumFrom]
  have b1 : t.recipes.length ≤ 60 := by have := g.rc.len; rwa [List.length_map] at this
  have b2 : t.quests.length ≤ 60 := by have := g.rq.len; rwa [List.length_map] at this
  have b3 : t.shops.length ≤ 60 := by have := g.rs.len; rwa [List.length_map] at this
  have zr : t.recipes.length = (t.recipes.zip m.nd).length := by rw [List.length_zip, lt.1, Nat.min_self]
  have zs : t.shops.length = (t.shops.zip m.it).length := by rw [List.length_zip, lt.2, Nat.min_self]
  refine go ?_
  refine ⟨?_, by simp⟩ <;> intros
  refine loop (fun k => k ≤ t.recipes.length) (fun k => [(0, .pointer (some ⟨d, 0, none⟩)), (12, .slice m.reA t.recipes.length m.reC), (13, .int .i64 (t.recipes.length : Int)), (14, .int .i64 (k : Int))]) (fun k => P :: Rs) (fun k => t.recipes.length - k) 0 (Nat.zero_le _) fun k h1 => ?_
  by_cases hk : k < t.recipes.length
  · obtain ⟨x, hx⟩ : ∃ x, t.recipes[k]? = some x := ⟨_, List.getElem?_eq_getElem hk⟩
    obtain ⟨⟨A1, c1⟩, hz, _⟩ := zip_get hx lt.1
    have hg := g.co x (List.mem_of_getElem? hx)
    have hR : Reads P E64 A1 x.needs := hp.nd _ (List.mem_of_getElem? hz)
    have hln := hg.ln
    have F1 := in_yes (x.needs.length : Int) 1 5 (by omega) (by omega)
    have F2 := sorted_yes x.needs A1 c1 (by omega) hg.up P hR
    have hb : (x.needs.any fun _ => false) = false := by simp
    have F3 := ct_int x.needs A1 c1 (by omega) P hR 205 [] [P] [] .here (fun _ => false) (fun n hn => by
      have h := notid n (hg.id n hn).1
      exact ⟨fun o w Rs hw => Calls.mono (h.run o w ([P] ++ Rs) hw) fun e w' ⟨v, Ps, he, ⟨hv, hPs⟩, hs⟩ => ⟨v, [P], he, ⟨hv, rfl⟩, by subst hPs; exact hs⟩⟩)
    rw [hb] at F3
    refine go ?_
    refine ⟨?_, by simp⟩ <;> intros
    exact rnd (k + 1) hk (by omega)
  refine go ?_
  refine ⟨?_, by simp⟩ <;> intros
  refine loop (fun k => k ≤ t.quests.length) (fun k => [(0, .pointer (some ⟨d, 0, none⟩)), (38, .slice m.quA t.quests.length m.quC), (39, .int .i64 (t.quests.length : Int)), (40, .int .i64 (k : Int))]) (fun k => P :: Rs) (fun k => t.quests.length - k) 0 (Nat.zero_le _) fun k h1 => ?_
  by_cases hk : k < t.quests.length
  · obtain ⟨x, hx⟩ : ∃ x, t.quests[k]? = some x := ⟨_, List.getElem?_eq_getElem hk⟩
    have hg := g.qo x (List.mem_of_getElem? hx)
    have F1 := id_yes x.item hg.it.1
    have F2 := in_yes x.count 1 5 hg.ct.1 hg.ct.2
    have F3 := in_yes x.gold 0 1073741824 hg.go.1 hg.go.2
    have F4 := in_yes x.reward 0 1000 hg.re.1.1 hg.re.1.2
    refine go ?_
    refine ⟨?_, by simp⟩ <;> intros
    exact rnd (k + 1) hk (by omega)
  refine go ?_
  refine ⟨?_, by simp⟩ <;> intros
  refine loop (fun k => k ≤ t.shops.length) (fun k => [(0, .pointer (some ⟨d, 0, none⟩)), (70, .slice m.shA t.shops.length m.shC), (71, .int .i64 (t.shops.length : Int)), (72, .int .i64 (k : Int))]) (fun k => P :: Rs) (fun k => t.shops.length - k) 0 (Nat.zero_le _) fun k h1 => ?_
  by_cases hk : k < t.shops.length
  · obtain ⟨x, hx⟩ : ∃ x, t.shops[k]? = some x := ⟨_, List.getElem?_eq_getElem hk⟩
    obtain ⟨⟨A1, c1⟩, hz, _⟩ := zip_get hx lt.2
    have hg := g.so x (List.mem_of_getElem? hx)
    have hR : Reads P E64 A1 x.items := hp.it _ (List.mem_of_getElem? hz)
    have F1 := in_yes x.till 0 1073741824 hg.ti.1 hg.ti.2
    have F2 := rise_in x.items A1 c1 8 (by rw [List.map_id']; exact hg.it) (by decide) P hR
    refine go ?_
    refine ⟨?_, by simp⟩ <;> intros
    exact rnd (k + 1) hk (by omega)
  refine go ?_
  simp
theorem zip_map1 {α β γ : Type} (f : α → γ) : ∀ (l : List α) (r : List β), r.length = l.length → ((l.zip r).map fun x => f x.1) = l.map f
  | [], _, _ => by simp
  | a :: l, [], h => by cases h
  | a :: l, b :: r, h => by simp only [List.zip_cons_cons, List.map_cons, zip_map1 f l r (by simpa using h)]
theorem right_yes (d : Nat) (m : Tay) (t : Tab) (g : Good t) (lt : TLaid m t) (P : HProp) [hp : RT P d m t] : Trip Tryz.prog 107 [.pointer (some ⟨d, 0, none⟩)] [P] (fun v Ps => v = .bool true ∧ Ps = [P]) := by
  refine Trip.of (m := 63) Tryz.func107 rfl rfl rfl ?_
  intro o Rs
  simp only [List.cons_append, List.nil_append, enumFrom]
  have b0 := g.ne
  have b1 : t.rooms.length ≤ 60 := by have := g.rr.len; rwa [List.length_map] at this
  have zr : t.recipes.length = (t.recipes.zip m.nd).length := by rw [List.length_zip, lt.1, Nat.min_self]
  have zs : t.shops.length = (t.shops.zip m.it).length := by rw [List.length_zip, lt.2, Nat.min_self]
  have F1 := rise_rm t.rooms m.roA m.roC 60 g.rr (by decide) P hp.ro
  have F2 := rise_pr t.protos m.prA m.prC 60 g.rp (by decide) P hp.pr
  have F3 := rise_mo t.mobs m.moA m.moC 60 g.rm (by decide) P hp.mo
  have F4 := rise_rc (t.recipes.zip m.nd) m.reA m.reC 60 (by rw [zip_map1 _ _ _ lt.1]; exact g.rc) (by decide) P hp.re
  have F5 := rise_qu t.quests m.quA m.quC 60 g.rq (by decide) P hp.qu
  have F6 := rise_sh (t.shops.zip m.it) m.shA m.shC 60 (by rw [zip_map1 _ _ _ lt.2]; exact g.rs) (by decide) P hp.sh
  rw [← zr] at F4
  rw [← zs] at F6
  have F7 := things_yes d m t g P
  have F8 := plans_yes d m t g lt P
  refine go ?_
  simp
end Go.Proofs.YtlibnpdbcjgegaaGreat
namespace Go.Proofs.YtlibnpdbcjgegaaGreat
open Go.SL
set_option linter.unusedVariables false
set_option linter.unusedSimpArgs false
set_option maxHeartbeats 8000000
set_option maxRecDepth 20000
theorem item_yes (d : Nat) (m : Tay) (t : Tab) (P : HProp) [hp : RT P d m t] (hl : t.protos.length ≤ 60) (n : Int) (hn : ∃ k, protoI t n = some k) (b b2 : Nat) :
    Trip Tryz.prog 180 [.int .i64 n, .pointer (some ⟨b, 0, none⟩), .pointer (some ⟨b2, 0, none⟩)] [blk b 23 [.pointer (some ⟨d, 0, none⟩)], blk b2 4 [.bool true], P] (fun v Ps => v = .tuple #[] ∧ Ps = [blk b 23 [.pointer (some ⟨d, 0, none⟩)], blk b2 4 [.bool true], P]) := by
  refine Trip.of (m := 16) Tryz.func180 rfl rfl rfl ?_
  intro o Rs
  simp only [List.cons_append, List.nil_append, enumFrom]
  obtain ⟨k, hk⟩ := hn
  have F1 := ProtoP_spec d m t n (by omega) P
  rw [hk, Option.isSome_some] at F1
  refine go ?_
  refine ⟨?_, by simp⟩ <;> intros
  exact ret0 ⟨rfl, rfl⟩
theorem named_yes (d : Nat) (m : Tay) (t : Tab) (g : Good t) (lt : TLaid m t) (P : HProp) [hp : RT P d m t] : Trip Tryz.prog 109 [.pointer (some ⟨d, 0, none⟩)] [P] (fun v Ps => v = .bool true ∧ Ps = [P]) := by
  refine Trip.of (m := 163) Tryz.func109 rfl rfl rfl ?_
  intro o Rs
  simp only [List.cons_append, List.nil_append, enumFrom]
  have b1 : t.rooms.length ≤ 60 := by have := g.rr.len; rwa [List.length_map] at this
  have b2 : t.protos.length ≤ 60 := by have := g.rp.len; rwa [List.length_map] at this
  have b3 : t.mobs.length ≤ 60 := by have := g.rm.len; rwa [List.length_map] at this
  have b4 : t.recipes.length ≤ 60 := by have := g.rc.len; rwa [List.length_map] at this
  have b5 : t.quests.length ≤ 60 := by have := g.rq.len; rwa [List.length_map] at this
  have b6 : t.shops.length ≤ 60 := by have := g.rs.len; rwa [List.length_map] at this
  have zr : t.recipes.length = (t.recipes.zip m.nd).length := by rw [List.length_zip, lt.1, Nat.min_self]
  have zs : t.shops.length = (t.shops.zip m.it).length := by rw [List.length_zip, lt.2, Nat.min_self]
  refine go ?_
  refine ⟨?_, by simp⟩ <;> intros
  rename_i o1 o3
  refine loop (fun k => k ≤ t.rooms.length) (fun k => [(1, .pointer (some ⟨o1, 0, none⟩)), (3, .pointer (some ⟨o3, 0, none⟩)), (4, .func (.func 180) #[] #[.pointer (some ⟨o1, 0, none⟩), .pointer (some ⟨o3, 0, none⟩)]), (31, .slice m.roA t.rooms.length m.roC), (32, .int .i64 (t.rooms.length : Int)), (33, .int .i64 (k : Int))])
    (fun k => blk o1 23 [.pointer (some ⟨d, 0, none⟩)] :: blk o3 4 [.bool true] :: P :: Rs) (fun k => t.rooms.length - k) 0 (Nat.zero_le _) fun k h1 => ?_
  by_cases hk : k < t.rooms.length
  · obtain ⟨x, hx⟩ : ∃ x, t.rooms[k]? = some x := ⟨_, List.getElem?_eq_getElem hk⟩
    have hg := g.ro x (List.mem_of_getElem? hx)
    refine go ?_
    refine ⟨?_, by simp⟩ <;> intros
    refine loop (σ := Nat) (fun j => j ≤ 6) (fun j => [(1, .pointer (some ⟨o1, 0, none⟩)), (3, .pointer (some ⟨o3, 0, none⟩)), (4, .func (.func 180) #[] #[.pointer (some ⟨o1, 0, none⟩), .pointer (some ⟨o3, 0, none⟩)]), (31, .slice m.roA t.rooms.length m.roC), (32, .int .i64 (t.rooms.length : Int)), (33, .int .i64 (k : Int)), (38, .agg #[.int .i64 x.e0, .int .i64 x.e1, .int .i64 x.e2, .int .i64 x.e3, .int .i64 x.e4, .int .i64 x.e5]), (39, .int .i64 (j : Int))])
      (fun j => blk o1 23 [.pointer (some ⟨d, 0, none⟩)] :: blk o3 4 [.bool true] :: P :: Rs) (fun j => 6 - j) 0 (Nat.zero_le _) fun j hj => ?_
    by_cases hj2 : j < 6
    · obtain ⟨v, hv⟩ : ∃ v, x.exits[j]? = some v := ⟨_, List.getElem?_eq_getElem hj2⟩
      obtain ⟨he, hr⟩ := hg.ex v (List.mem_of_getElem? hv)
      have hv2 : ([.int .i64 x.e0, .int .i64 x.e1, .int .i64 x.e2, .int .i64 x.e3, .int .i64 x.e4, .int .i64 x.e5] : List Value)[j]? = some (.int .i64 v) := by
        have : ([.int .i64 x.e0, .int .i64 x.e1, .int .i64 x.e2, .int .i64 x.e3, .int .i64 x.e4, .int .i64 x.e5] : List Value) = x.exits.map (.int .i64) := rfl
        rw [this, List.getElem?_map, hv]; rfl
      have F1 := RoomP_spec d m t v (by omega) P
      by_cases h0 : v = 0
      · subst h0
        refine go ?_
        refine ⟨?_, by simp⟩ <;> intros
        exact rnd (j + 1) (by omega) (by omega)
      · obtain ⟨q, hq⟩ := hr.resolve_left h0
        rw [hq, Option.isSome_some] at F1
        refine go ?_
        refine ⟨?_, by simp⟩ <;> intros
        exact rnd (j + 1) (by omega) (by omega)
    · refine go ?_
      refine ⟨?_, by simp⟩ <;> intros
      exact rnd (k + 1) hk (by omega)
  refine go ?_
  refine ⟨?_, by simp⟩ <;> intros
  refine loop (fun k => k ≤ t.mobs.length) (fun k => [(1, .pointer (some ⟨o1, 0, none⟩)), (3, .pointer (some ⟨o3, 0, none⟩)), (4, .func (.func 180) #[] #[.pointer (some ⟨o1, 0, none⟩), .pointer (some ⟨o3, 0, none⟩)]), (61, .slice m.moA t.mobs.length m.moC), (62, .int .i64 (t.mobs.length : Int)), (63, .int .i64 (k : Int))])
    (fun k => blk o1 23 [.pointer (some ⟨d, 0, none⟩)] :: blk o3 4 [.bool true] :: P :: Rs) (fun k => t.mobs.length - k) 0 (Nat.zero_le _) fun k h1 => ?_
  by_cases hk : k < t.mobs.length
  · obtain ⟨x, hx⟩ : ∃ x, t.mobs[k]? = some x := ⟨_, List.getElem?_eq_getElem hk⟩
    obtain ⟨q, hq⟩ := (g.mo x (List.mem_of_getElem? hx)).ho
    have F1 := RoomP_spec d m t x.home (by omega) P
    rw [hq, Option.isSome_some] at F1
    refine go ?_
    refine ⟨?_, by simp⟩ <;> intros
    exact rnd (k + 1) hk (by omega)
  refine go ?_
  refine ⟨?_, by simp⟩ <;> intros
  refine loop (fun k => k ≤ t.recipes.length) (fun k => [(1, .pointer (some ⟨o1, 0, none⟩)), (3, .pointer (some ⟨o3, 0, none⟩)), (4, .func (.func 180) #[] #[.pointer (some ⟨o1, 0, none⟩), .pointer (some ⟨o3, 0, none⟩)]), (82, .slice m.reA t.recipes.length m.reC), (83, .int .i64 (t.recipes.length : Int)), (84, .int .i64 (k : Int))])
    (fun k => blk o1 23 [.pointer (some ⟨d, 0, none⟩)] :: blk o3 4 [.bool true] :: P :: Rs) (fun k => t.recipes.length - k) 0 (Nat.zero_le _) fun k h1 => ?_
  by_cases hk : k < t.recipes.length
  · obtain ⟨x, hx⟩ : ∃ x, t.recipes[k]? = some x := ⟨_, List.getElem?_eq_getElem hk⟩
    obtain ⟨⟨A1, c1⟩, hz, _⟩ := zip_get hx lt.1
    have hg := g.co x (List.mem_of_getElem? hx)
    have hR : Reads P E64 A1 x.needs := hp.nd _ (List.mem_of_getElem? hz)
    haveI : Rd P E64 A1 x.needs := ⟨hR⟩
    have hln := hg.ln
    refine go ?_
    refine ⟨?_, by simp⟩ <;> intros
    rename_i A c
    refine loop (σ := Nat) (fun j => j ≤ x.needs.length + 1) (fun j => [(1, .pointer (some ⟨o1, 0, none⟩)), (3, .pointer (some ⟨o3, 0, none⟩)), (4, .func (.func 180) #[] #[.pointer (some ⟨o1, 0, none⟩), .pointer (some ⟨o3, 0, none⟩)]), (82, .slice m.reA t.recipes.length m.reC), (83, .int .i64 (t.recipes.length : Int)), (84, .int .i64 (k : Int)), (93, .slice A (x.out :: x.needs).length c), (94, .int .i64 ((x.out :: x.needs).length : Int)), (95, .int .i64 (j : Int))])
      (fun j => sl E64 3 A c (x.out :: x.needs) :: blk o1 23 [.pointer (some ⟨d, 0, none⟩)] :: blk o3 4 [.bool true] :: P :: Rs) (fun j => x.needs.length + 1 - j) 0 (Nat.zero_le _) fun j hj => ?_
    by_cases hj2 : j < (x.out :: x.needs).length
    · obtain ⟨v, hv⟩ : ∃ v, (x.out :: x.needs)[j]? = some v := ⟨_, List.getElem?_eq_getElem hj2⟩
      have hpv : ∃ k, protoI t v = some k := by
        rcases List.mem_cons.1 (List.mem_of_getElem? hv) with rfl | hm
        · exact hg.oi
        · exact (hg.id v hm).2
      have F1 := item_yes d m t P b2 v hpv o1 o3
      have hj3 : j < x.needs.length + 1 := hj2
      refine go ?_
      refine ⟨?_, by simp⟩ <;> intros
      exact rnd (j + 1) (by omega) (by omega)
    · have hj3 : ¬ j < x.needs.length + 1 := hj2
      refine go ?_
      refine ⟨?_, by simp⟩ <;> intros
      exact rnd (k + 1) hk (by omega)
  refine go ?_
  refine ⟨?_, by simp⟩ <;> intros
  refine loop (fun k => k ≤ t.quests.length) (fun k => [(1, .pointer (some ⟨o1, 0, none⟩)), (3, .pointer (some ⟨o3, 0, none⟩)), (4, .func (.func 180) #[] #[.pointer (some ⟨o1, 0, none⟩), .pointer (some ⟨o3, 0, none⟩)]), (107, .slice m.quA t.quests.length m.quC), (108, .int .i64 (t.quests.length : Int)), (109, .int .i64 (k : Int))])
    (fun k => blk o1 23 [.pointer (some ⟨d, 0, none⟩)] :: blk o3 4 [.bool true] :: P :: Rs) (fun k => t.quests.length - k) 0 (Nat.zero_le _) fun k h1 => ?_
  by_cases hk : k < t.quests.length
  · obtain ⟨x, hx⟩ : ∃ x, t.quests[k]? = some x := ⟨_, List.getElem?_eq_getElem hk⟩
    have hg := g.qo x (List.mem_of_getElem? hx)
    have F1 := item_yes d m t P b2 x.item hg.it.2 o1 o3
    by_cases h0 : x.reward = 0
    · refine go ?_
      refine ⟨?_, by simp⟩ <;> intros
      exact rnd (k + 1) hk (by omega)
    · have F2 := item_yes d m t P b2 x.reward (hg.re.2.resolve_left h0) o1 o3
      have h3 : 0 < x.reward := by have := hg.re.1; omega
      refine go ?_
      refine ⟨?_, by simp⟩ <;> intros
      exact rnd (k + 1) hk (by omega)
  refine go ?_
  refine ⟨?_, by simp⟩ <;> intros
  refine loop (fun k => k ≤ t.shops.length) (fun k => [(1, .pointer (some ⟨o1, 0, none⟩)), (3, .pointer (some ⟨o3, 0, none⟩)), (4, .func (.func 180) #[] #[.pointer (some ⟨o1, 0, none⟩), .pointer (some ⟨o3, 0, none⟩)]), (128, .slice m.shA t.shops.length m.shC), (129, .int .i64 (t.shops.length : Int)), (130, .int .i64 (k : Int))])
    (fun k => blk o1 23 [.pointer (some ⟨d, 0, none⟩)] :: blk o3 4 [.bool true] :: P :: Rs) (fun k => t.shops.length - k) 0 (Nat.zero_le _) fun k h1 => ?_
  by_cases hk : k < t.shops.length
  · obtain ⟨x, hx⟩ : ∃ x, t.shops[k]? = some x := ⟨_, List.getElem?_eq_getElem hk⟩
    obtain ⟨⟨A1, c1⟩, hz, _⟩ := zip_get hx lt.2
    have hg := g.so x (List.mem_of_getElem? hx)
    have hR : Reads P E64 A1 x.items := hp.it _ (List.mem_of_getElem? hz)
    haveI : Rd P E64 A1 x.items := ⟨hR⟩
    obtain ⟨q, y, hq, hy, hkd⟩ := hg.ro
    have hil := hg.it.len
    have F1 := RoomP_spec d m t x.room (by omega) P
    rw [show rmD t x.room = y from by rw [rmD, hq]; exact getD_of hy, hq, Option.isSome_some] at F1
    refine go ?_
    refine ⟨?_, by simp⟩ <;> intros
    refine loop (σ := Nat) (fun j => j ≤ x.items.length) (fun j => [(1, .pointer (some ⟨o1, 0, none⟩)), (3, .pointer (some ⟨o3, 0, none⟩)), (4, .func (.func 180) #[] #[.pointer (some ⟨o1, 0, none⟩), .pointer (some ⟨o3, 0, none⟩)]), (128, .slice m.shA t.shops.length m.shC), (129, .int .i64 (t.shops.length : Int)), (130, .int .i64 (k : Int)), (151, .slice A1 x.items.length c1), (152, .int .i64 (x.items.length : Int)), (153, .int .i64 (j : Int))])
      (fun j => blk o1 23 [.pointer (some ⟨d, 0, none⟩)] :: blk o3 4 [.bool true] :: P :: Rs) (fun j => x.items.length - j) 0 (Nat.zero_le _) (hh := by simp only [hkd, decide_true]; (focus ((repeat (first | exact Ent.done | with_reducible exact Ent.same | (apply Ent.take; (first | (focus (with_reducible iterate 40 first | done | exact .here | apply Find.there); done) | (focus (iterate 40 first | done | exact .here | apply Find.there); done))) | (apply Ent.emp (sl_emp _ _)) | apply Ent.drop)); first | done | fail))) fun j hj => ?_
    by_cases hj2 : j < x.items.length
    · obtain ⟨v, hv⟩ : ∃ v, x.items[j]? = some v := ⟨_, List.getElem?_eq_getElem hj2⟩
      have F1 := item_yes d m t P b2 v (hg.ip v (List.mem_of_getElem? hv)) o1 o3
      refine go ?_
      refine ⟨?_, by simp⟩ <;> intros
      exact rnd (j + 1) hj2 (by omega)
    · refine go ?_
      refine ⟨?_, by simp⟩ <;> intros
      exact rnd (k + 1) hk (by omega)
  refine go ?_
  simp
end Go.Proofs.YtlibnpdbcjgegaaGreat
namespace Go.Proofs.YtlibnpdbcjgegaaGreat
open Go.SL
set_option linter.unusedVariables false
set_option linter.unusedSimpArgs false
set_option maxHeartbeats 8000000
set_option maxRecDepth 20000
theorem Check_yes (d : Nat) (m : Tay) (t : Tab) (g : Good t) (lt : TLaid m t) (P : HProp) [hp : RT P d m t] : Trip Tryz.prog 49 [.pointer (some ⟨d, 0, none⟩)] [P] (fun v Ps => v = .nilIface ∧ Ps = [P]) := by
  refine Trip.of (m := 15) Tryz.func49 rfl rfl rfl ?_
  intro o Rs
  simp only [List.cons_append, List.nil_append, enumFrom]
  have F1 := right_yes d m t g lt P
  have F2 := named_yes d m t g lt P
  refine go ?_
  simp
end Go.Proofs.YtlibnpdbcjgegaaGreat
