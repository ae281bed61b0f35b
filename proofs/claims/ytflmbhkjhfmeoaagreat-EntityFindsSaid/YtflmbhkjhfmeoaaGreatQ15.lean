/-
  Walks and laws joined: WdMove EnPlaces.
-/
import Derived.Test.YtflmbhkjhfmeoaaGreatQ13
import Derived.Test.YtflmbhkjhfmeoaaGreatQ09
import Derived.Test.YtflmbhkjhfmeoaaGreatQ10
import Derived.Test.YtflmbhkjhfmeoaaGreatQ02
set_option linter.unusedVariables false
set_option linter.unusedSimpArgs false
namespace Go.Proofs.YtflmbhkjhfmeoaaGreat
open Go.SL
set_option maxHeartbeats 8000000
set_option maxRecDepth 20000
theorem Level_spec (xp : Int) (h0 : -9223372036854775808 ≤ xp) (h1 : xp ≤ 9223372036854775807) : Trip Tryz.prog 32 [.int .i64 xp] [] (fun v Ps => v = .int .i64 (levelN xp) ∧ Ps = []) := by
  refine Trip.of (m := 8) Tryz.func32 rfl rfl rfl ?_
  intro o Rs
  simp only [List.cons_append, List.nil_append, enumFrom]
  unfold levelN
  by_cases h : xp < 0
  · rw [if_pos h]
    refine goW ?_
    simp
  · rw [if_neg h]
    refine goW ?_
    simp
theorem level_le (xp : Int) (h1 : xp ≤ 9000000000000000000) : 1 ≤ levelN xp ∧ levelN xp ≤ 90000000000000001 := by
  unfold levelN; split <;> omega
theorem MaxHp_spec (xp : Int) (h0 : -9223372036854775808 ≤ xp) (h1 : xp ≤ 9000000000000000000) : Trip Tryz.prog 34 [.int .i64 xp] [] (fun v Ps => v = .int .i64 (maxHpN xp) ∧ Ps = []) := by
  refine Trip.of (m := 8) Tryz.func34 rfl rfl rfl ?_
  intro o Rs
  simp only [List.cons_append, List.nil_append, enumFrom]
  have F1 := Level_spec xp h0 (by omega)
  have hl := level_le xp h1
  unfold maxHpN
  generalize levelN xp = l at *
  refine goW ?_
  refine ⟨?_, by simp⟩ <;> intros
  exact congrArg (Value.int .i64) (by omega)
theorem results_tmp3 {fn : Func} {t u z : Tmp} (h : fn.results = #[.tmp t, .tmp u, .tmp z]) (tmps : Array Value) (P : Program) (w : World) :
    (results fn tmps).run P w = .ok (.tuple #[tmps.getD t undef, tmps.getD u undef, tmps.getD z undef]) w := by
  simp [results, h]
theorem ret3 {n : Nat} {o : Outer} {P : Program} {xs : Env} {hs : List HProp} {fn : Func} {t u z : Tmp} {Rs Ps : List HProp} {q : Value → List HProp → Prop} {e : Exit} {v v' v'' : Value} (hq : q (.tuple #[v, v', v'']) Ps) (hf : fn.results = #[.tmp t, .tmp u, .tmp z] := by exact rfl) (he : e = .ret ∨ e = .normal := by first | exact .inl rfl | exact .inr rfl)
    (hv : get xs t = some v := by exact rfl) (hv' : get xs u = some v' := by exact rfl) (hv'' : get xs z = some v'' := by exact rfl) (hh : Ent hs Ps Rs := by (exact ent_)) : E n o (bodyQ P fn o Rs q) e xs hs :=
  E.body he _ (fun a w ha _ => by rw [results_tmp3 hf, Array.getD_eq_getD_getElem?, Array.getD_eq_getD_getElem?, Array.getD_eq_getD_getElem?, ha.get t v hv, ha.get u v' hv', ha.get z v'' hv'']; rfl) hq hh
theorem Move_spec (a b n : Int) (ha : -4611686018427387904 ≤ a ∧ a ≤ 4611686018427387904) (hb : -4611686018427387904 ≤ b ∧ b ≤ 4611686018427387904) (hn : -4611686018427387904 ≤ n ∧ n ≤ 4611686018427387904) :
    Trip Tryz.prog 264 [.int .i64 a, .int .i64 b, .int .i64 n] [] (fun v Ps => v = .tuple #[.int .i64 (moveN a b n).1, .int .i64 (moveN a b n).2.1, .bool (moveN a b n).2.2] ∧ Ps = []) := by
  refine Trip.of (m := 42) Tryz.func264 rfl rfl rfl ?_
  intro o Rs
  simp only [List.cons_append, List.nil_append, enumFrom]
  unfold moveN maxGold
  by_cases h1 : n ≤ 0
  · rw [if_pos (.inl h1)]
    refine go ?_
    (repeat' (first | exact trivial | apply And.intro | intro _))
    all_goals first
      | (exfalso; omega)
      | exact ret3 ⟨rfl, rfl⟩
  by_cases h2 : a < n
  · rw [if_pos (.inr (.inl h2))]
    refine go ?_
    (repeat' (first | exact trivial | apply And.intro | intro _))
    all_goals first
      | (exfalso; omega)
      | exact ret3 ⟨rfl, rfl⟩
  by_cases h3 : 1099511627776 < a - n
  · rw [if_pos (.inr (.inr (.inl h3)))]
    refine go ?_
    (repeat' (first | exact trivial | apply And.intro | intro _))
    all_goals first
      | (exfalso; omega)
      | exact ret3 ⟨rfl, rfl⟩
  by_cases h4 : 1099511627776 - n < b
  · rw [if_pos (.inr (.inr (.inr (.inl h4))))]
    refine go ?_
    (repeat' (first | exact trivial | apply And.intro | intro _))
    all_goals first
      | (exfalso; omega)
      | exact ret3 ⟨rfl, rfl⟩
  by_cases h5 : b < -n
  · rw [if_pos (.inr (.inr (.inr (.inr h5))))]
    refine go ?_
    (repeat' (first | exact trivial | apply And.intro | intro _))
    all_goals first
      | (exfalso; omega)
      | exact ret3 ⟨rfl, rfl⟩
  rw [if_neg (by omega)]
  refine go ?_
  (repeat' (first | exact trivial | apply And.intro | intro _))
  all_goals first
    | (exfalso; omega)
    | exact ret3 ⟨rfl, rfl⟩
end Go.Proofs.YtflmbhkjhfmeoaaGreat
namespace Go.Proofs.YtflmbhkjhfmeoaaGreat
open Go.SL
set_option maxHeartbeats 8000000
set_option maxRecDepth 20000
theorem find_fst {hs : List HProp} {A X : HProp} {r : List HProp} (h : Find hs A r) (Rs : List HProp) : Lift (A :: X :: (r ++ Rs)) (hs ++ X :: Rs) := ((Lift.swap _ _ _).trans ((lift_app (find_back h) Rs).cons X)).trans (lift_in X hs Rs)
theorem fst_find {hs : List HProp} {A X : HProp} {r : List HProp} (h : Find hs A r) (Rs : List HProp) : Lift (hs ++ X :: Rs) (A :: X :: (r ++ Rs)) := ((lift_out X hs Rs).trans ((lift_app h.lift Rs).cons X)).trans (Lift.swap _ _ _)
theorem plc_thg (l : List (Thg)) (A : Option Addr) (c : Nat) (hl : l.length ≤ 1000000) (P : HProp) (hP : Reads P (Et) A l) (fn : Nat) [hc : Callable Tryz.prog fn] (cap : List Value) (Qs r : List HProp) (hf : Find Qs P r) (p : Thg → Bool)
    (hF : ∀ x ∈ l, Trip Tryz.prog fn ([.agg (thgC x).toArray] ++ cap) Qs (fun v Ps => v = .bool (p x) ∧ Ps = Qs)) :
    Trip Tryz.prog 94 [.slice A l.length c, .func (.func fn) #[] cap.toArray] Qs (fun v Ps => ∃ A' c', v = .slice A' (ints (pos p l)).length c' ∧ Ps = sl E64 3 A' c' (ints (pos p l)) :: Qs) := by
  refine Trip.of (m := 24) Tryz.func94 rfl rfl rfl ?_
  intro o Rs
  simp only [List.cons_append, List.nil_append, enumFrom]
  refine C.lift (lift_app hf.lift Rs) ?_
  rw [List.cons_append]
  generalize hT : r ++ Rs = T
  refine go ?_
  refine ⟨?_, by simp⟩ <;> intros
  refine loop (σ := Nat × PA) (fun s => s.1 ≤ l.length) (fun s => [(1, .func (.func fn) #[] cap.toArray), (5, .slice s.2.1 (ints (pos p (l.take s.1))).length s.2.2), (8, .slice A l.length c), (9, .int .i64 (l.length : Int)), (10, .int .i64 (s.1 : Int))]) (fun s => P :: sl E64 3 s.2.1 s.2.2 (ints (pos p (l.take s.1))) :: T) (fun s => l.length - s.1) (0, none, 0) (Nat.zero_le _) ?_
  rintro ⟨k, A1, c1⟩ hk1
  simp only at hk1 ⊢
  by_cases hk : k < l.length
  · obtain ⟨x, hx⟩ : ∃ x, l[k]? = some x := ⟨_, List.getElem?_eq_getElem hk⟩
    have F1 := hF x (List.mem_of_getElem? hx)
    have hy := pos_yes (p := p) hx
    have hn := pos_no (p := p) hx
    have hb : (ints (pos p (l.take k))).length ≤ 1000000 := by
      have := pos_len p (l.take k)
      rw [List.length_take] at this; rw [ints, List.length_map]; omega
    generalize ints (pos p (l.take k)) = L at *
    refine go ?_
    refine ⟨?_, by simp⟩ <;> intros
    subst hT
    refine W.lift (((find_fst hf Rs).cons _).trans (lift_in _ Qs _)) ?_
    refine W.callv rfl rfl rfl (ent_app Qs _) rfl .nil F1 ?_
    rintro _ Ps ⟨rfl, e⟩
    rw [e]
    refine W.lift ((lift_out _ Qs _).trans ((fst_find hf Rs).cons _)) ?_
    cases hp : p x
    · have hn := hn hp
      refine go ?_
      refine ⟨?_, by simp⟩ <;> intros
      rw [← hn]
      exact rnd (k + 1, A1, c1) hk (by simp only; omega)
    · have hy := hy hp
      refine go ?_
      refine ⟨?_, by simp⟩ <;> intros
      rename Option Addr => A'
      rename Nat => c'
      rw [← hy]
      exact rnd (k + 1, A', c') hk (by simp only; omega)
  · rw [pos_end hk]
    refine go ?_
    refine ⟨?_, by simp⟩ <;> intros
    subst hT
    refine E.lift ((Lift.swap _ _ _).trans ((lift_app (find_back hf) Rs).cons _)) ?_
    exact ret1 ⟨A1, c1, rfl, rfl⟩ (hh := .take .here (ent_app Qs Rs))
theorem plc_mob (l : List (Mob)) (A : Option Addr) (c : Nat) (hl : l.length ≤ 1000000) (P : HProp) (hP : Reads P (Em) A l) (fn : Nat) [hc : Callable Tryz.prog fn] (cap : List Value) (Qs r : List HProp) (hf : Find Qs P r) (p : Mob → Bool)
    (hF : ∀ x ∈ l, Trip Tryz.prog fn ([.agg (mobC x).toArray] ++ cap) Qs (fun v Ps => v = .bool (p x) ∧ Ps = Qs)) :
    Trip Tryz.prog 99 [.slice A l.length c, .func (.func fn) #[] cap.toArray] Qs (fun v Ps => ∃ A' c', v = .slice A' (ints (pos p l)).length c' ∧ Ps = sl E64 3 A' c' (ints (pos p l)) :: Qs) := by
  refine Trip.of (m := 24) Tryz.func99 rfl rfl rfl ?_
  intro o Rs
  simp only [List.cons_append, List.nil_append, enumFrom]
  refine C.lift (lift_app hf.lift Rs) ?_
  rw [List.cons_append]
  generalize hT : r ++ Rs = T
  refine go ?_
  refine ⟨?_, by simp⟩ <;> intros
  refine loop (σ := Nat × PA) (fun s => s.1 ≤ l.length) (fun s => [(1, .func (.func fn) #[] cap.toArray), (5, .slice s.2.1 (ints (pos p (l.take s.1))).length s.2.2), (8, .slice A l.length c), (9, .int .i64 (l.length : Int)), (10, .int .i64 (s.1 : Int))]) (fun s => P :: sl E64 3 s.2.1 s.2.2 (ints (pos p (l.take s.1))) :: T) (fun s => l.length - s.1) (0, none, 0) (Nat.zero_le _) ?_
  rintro ⟨k, A1, c1⟩ hk1
  simp only at hk1 ⊢
  by_cases hk : k < l.length
  · obtain ⟨x, hx⟩ : ∃ x, l[k]? = some x := ⟨_, List.getElem?_eq_getElem hk⟩
    have F1 := hF x (List.mem_of_getElem? hx)
    have hy := pos_yes (p := p) hx
    have hn := pos_no (p := p) hx
    have hb : (ints (pos p (l.take k))).length ≤ 1000000 := by
      have := pos_len p (l.take k)
      rw [List.length_take] at this; rw [ints, List.length_map]; omega
    generalize ints (pos p (l.take k)) = L at *
    refine go ?_
    refine ⟨?_, by simp⟩ <;> intros
    subst hT
    refine W.lift (((find_fst hf Rs).cons _).trans (lift_in _ Qs _)) ?_
    refine W.callv rfl rfl rfl (ent_app Qs _) rfl .nil F1 ?_
    rintro _ Ps ⟨rfl, e⟩
    rw [e]
    refine W.lift ((lift_out _ Qs _).trans ((fst_find hf Rs).cons _)) ?_
    cases hp : p x
    · have hn := hn hp
      refine go ?_
      refine ⟨?_, by simp⟩ <;> intros
      rw [← hn]
      exact rnd (k + 1, A1, c1) hk (by simp only; omega)
    · have hy := hy hp
      refine go ?_
      refine ⟨?_, by simp⟩ <;> intros
      rename Option Addr => A'
      rename Nat => c'
      rw [← hy]
      exact rnd (k + 1, A', c') hk (by simp only; omega)
  · rw [pos_end hk]
    refine go ?_
    refine ⟨?_, by simp⟩ <;> intros
    subst hT
    refine E.lift ((Lift.swap _ _ _).trans ((lift_app (find_back hf) Rs).cons _)) ?_
    exact ret1 ⟨A1, c1, rfl, rfl⟩ (hh := .take .here (ent_app Qs Rs))
theorem plc_chr (l : List (Chr × PA)) (A : Option Addr) (c : Nat) (hl : l.length ≤ 1000000) (P : HProp) (hP : Reads P (Ec) A l) (fn : Nat) [hc : Callable Tryz.prog fn] (cap : List Value) (Qs r : List HProp) (hf : Find Qs P r) (p : Chr × PA → Bool)
    (hF : ∀ x ∈ l, Trip Tryz.prog fn ([.agg (chrC x.1 x.2).toArray] ++ cap) Qs (fun v Ps => v = .bool (p x) ∧ Ps = Qs)) :
    Trip Tryz.prog 101 [.slice A l.length c, .func (.func fn) #[] cap.toArray] Qs (fun v Ps => ∃ A' c', v = .slice A' (ints (pos p l)).length c' ∧ Ps = sl E64 3 A' c' (ints (pos p l)) :: Qs) := by
  refine Trip.of (m := 24) Tryz.func101 rfl rfl rfl ?_
  intro o Rs
  simp only [List.cons_append, List.nil_append, enumFrom]
  refine C.lift (lift_app hf.lift Rs) ?_
  rw [List.cons_append]
  generalize hT : r ++ Rs = T
  refine go ?_
  refine ⟨?_, by simp⟩ <;> intros
  refine loop (σ := Nat × PA) (fun s => s.1 ≤ l.length) (fun s => [(1, .func (.func fn) #[] cap.toArray), (5, .slice s.2.1 (ints (pos p (l.take s.1))).length s.2.2), (8, .slice A l.length c), (9, .int .i64 (l.length : Int)), (10, .int .i64 (s.1 : Int))]) (fun s => P :: sl E64 3 s.2.1 s.2.2 (ints (pos p (l.take s.1))) :: T) (fun s => l.length - s.1) (0, none, 0) (Nat.zero_le _) ?_
  rintro ⟨k, A1, c1⟩ hk1
  simp only at hk1 ⊢
  by_cases hk : k < l.length
  · obtain ⟨x, hx⟩ : ∃ x, l[k]? = some x := ⟨_, List.getElem?_eq_getElem hk⟩
    have F1 := hF x (List.mem_of_getElem? hx)
    have hy := pos_yes (p := p) hx
    have hn := pos_no (p := p) hx
    have hb : (ints (pos p (l.take k))).length ≤ 1000000 := by
      have := pos_len p (l.take k)
      rw [List.length_take] at this; rw [ints, List.length_map]; omega
    generalize ints (pos p (l.take k)) = L at *
    refine go ?_
    refine ⟨?_, by simp⟩ <;> intros
    subst hT
    refine W.lift (((find_fst hf Rs).cons _).trans (lift_in _ Qs _)) ?_
    refine W.callv rfl rfl rfl (ent_app Qs _) rfl .nil F1 ?_
    rintro _ Ps ⟨rfl, e⟩
    rw [e]
    refine W.lift ((lift_out _ Qs _).trans ((fst_find hf Rs).cons _)) ?_
    cases hp : p x
    · have hn := hn hp
      refine go ?_
      refine ⟨?_, by simp⟩ <;> intros
      rw [← hn]
      exact rnd (k + 1, A1, c1) hk (by simp only; omega)
    · have hy := hy hp
      refine go ?_
      refine ⟨?_, by simp⟩ <;> intros
      rename Option Addr => A'
      rename Nat => c'
      rw [← hy]
      exact rnd (k + 1, A', c') hk (by simp only; omega)
  · rw [pos_end hk]
    refine go ?_
    refine ⟨?_, by simp⟩ <;> intros
    subst hT
    refine E.lift ((Lift.swap _ _ _).trans ((lift_app (find_back hf) Rs).cons _)) ?_
    exact ret1 ⟨A1, c1, rfl, rfl⟩ (hh := .take .here (ent_app Qs Rs))
theorem pos_zip {α β : Type} (p : α → Bool) (l : List α) (r : List β) (h : r.length = l.length) : pos (fun x => p x.1) (l.zip r) = pos p l := by
  have key : ∀ k, k ≤ l.length → pos (fun x : α × β => p x.1) ((l.zip r).take k) = pos p (l.take k) := by
    intro k
    induction k with
    | zero => intro _; simp [pos]
    | succ k ih =>
      intro hk
      have hx : l[k]? = some l[k] := List.getElem?_eq_getElem hk
      have hr : r[k]? = some (r[k]'(by omega)) := List.getElem?_eq_getElem (by omega)
      have hz : (l.zip r)[k]? = some (l[k], r[k]'(by omega)) := by rw [List.getElem?_zip_eq_some]; exact ⟨hx, hr⟩
      rw [pos_snoc hz, pos_snoc hx, ih (by omega)]
  have := key l.length (Nat.le_refl _)
  rwa [List.take_length, List.take_of_length_le (by rw [List.length_zip]; omega)] at this
theorem pos_congr {α : Type} {p q : α → Bool} (h : ∀ x, p x = q x) (l : List α) : pos p l = pos q l := by rw [show p = q from funext h]
section
variable (d : Nat) (m : Lay) (w : Wld)
theorem HereP_one (x : Thg) (room : Int) (b : Nat) (R : HProp) : Trip Tryz.prog 98 ([.agg (thgC x).toArray] ++ [.pointer (some ⟨b, 0, none⟩)]) [R, blk b 3 [.int .i64 room]] (fun v Ps => v = .bool (x.place == 1 && x.room == room) ∧ Ps = [R, blk b 3 [.int .i64 room]]) := by
  refine Trip.of (m := 13) Tryz.func98 rfl rfl rfl ?_
  intro o Rs
  simp only [List.cons_append, List.nil_append, enumFrom]
  refine go ?_
  simp
  exact ⟨fun h _ => h, fun h h2 => absurd h2 h⟩
theorem HereP_spec (room : Int) (hl : w.things.length ≤ 1000000) (P : HProp) [hp : RW P d m w] : Trip Tryz.prog 40 [.pointer (some ⟨d, 0, none⟩), .int .i64 room] [P] (fun v Ps => ∃ A c, v = .slice A (ints (hereL w room)).length c ∧ Ps = [P, sl E64 3 A c (ints (hereL w room))]) := by
  refine Trip.of (m := 13) Tryz.func40 rfl rfl rfl ?_
  intro o Rs
  simp only [List.cons_append, List.nil_append, enumFrom]
  refine go ?_
  refine ⟨?_, by simp⟩ <;> intros
  rename_i b
  have F1 := plc_thg w.things m.thA m.thC hl P hp.th 98 [.pointer (some ⟨b, 0, none⟩)] [P, blk b 3 [.int .i64 room]] [blk b 3 [.int .i64 room]] .here (fun x => x.place == 1 && x.room == room) (fun x _ => HereP_one x room b P)
  unfold hereL
  refine go ?_
  refine ⟨?_, by simp⟩ <;> intros
  exact ret1 ⟨_, _, rfl, rfl⟩
theorem OfP_one (x : Thg) (place : Int) (name : Tx) (b b2 : Nat) (R : HProp) : Trip Tryz.prog 95 ([.agg (thgC x).toArray] ++ [.pointer (some ⟨b, 0, none⟩), .pointer (some ⟨b2, 0, none⟩)]) [R, blk b 3 [.int .i64 place], blk b2 9 [str name]] (fun v Ps => v = .bool (x.place == place && x.who == name) ∧ Ps = [R, blk b 3 [.int .i64 place], blk b2 9 [str name]]) := by
  refine Trip.of (m := 15) Tryz.func95 rfl rfl rfl ?_
  intro o Rs
  simp only [List.cons_append, List.nil_append, enumFrom]
  refine go ?_
  simp
  exact ⟨fun h _ => h, fun h h2 => absurd h2 h⟩
theorem OfP_spec (name : Tx) (place : Int) (hl : w.things.length ≤ 1000000) (P : HProp) [hp : RW P d m w] : Trip Tryz.prog 36 [.pointer (some ⟨d, 0, none⟩), str name, .int .i64 place] [P] (fun v Ps => ∃ A c, v = .slice A (ints (ofL w name place)).length c ∧ Ps = [P, sl E64 3 A c (ints (ofL w name place))]) := by
  refine Trip.of (m := 23) Tryz.func36 rfl rfl rfl ?_
  intro o Rs
  simp only [List.cons_append, List.nil_append, enumFrom]
  unfold ofL
  by_cases hpl : place = 2 ∨ place = 3
  · have e1 : pos (fun x : Thg => (x.place == 2 || x.place == 3) && x.place == place && x.who == name) w.things = pos (fun x : Thg => x.place == place && x.who == name) w.things := by
      refine pos_congr (fun x => ?_) _
      by_cases h : x.place = place
      · rw [h]
        rcases hpl with rfl | rfl <;> simp
      · have h2 : (x.place == place) = false := by simpa using h
        rw [h2]; simp
    rw [e1]
    clear e1
    have hn : ¬ (¬ place = 2 ∧ ¬ place = 3) := by omega
    rcases hpl with hpl | hpl
    · subst hpl
      refine go ?_
      refine ⟨?_, by simp⟩ <;> intros
      rename_i b b2
      have F1 := plc_thg w.things m.thA m.thC hl P hp.th 95 [.pointer (some ⟨b2, 0, none⟩), .pointer (some ⟨b, 0, none⟩)] [P, blk b2 3 [.int .i64 2], blk b 9 [str name]] [blk b2 3 [.int .i64 2], blk b 9 [str name]] .here (fun x => x.place == 2 && x.who == name) (fun x _ => OfP_one x 2 name b2 b P)
      refine go ?_
      refine ⟨?_, by simp⟩ <;> intros
      exact ret1 ⟨_, _, rfl, rfl⟩
    · subst hpl
      refine go ?_
      refine ⟨?_, by simp⟩ <;> intros
      rename_i b b2
      have F1 := plc_thg w.things m.thA m.thC hl P hp.th 95 [.pointer (some ⟨b2, 0, none⟩), .pointer (some ⟨b, 0, none⟩)] [P, blk b2 3 [.int .i64 3], blk b 9 [str name]] [blk b2 3 [.int .i64 3], blk b 9 [str name]] .here (fun x => x.place == 3 && x.who == name) (fun x _ => OfP_one x 3 name b2 b P)
      refine go ?_
      refine ⟨?_, by simp⟩ <;> intros
      exact ret1 ⟨_, _, rfl, rfl⟩
  · have h2 : ¬ place = 2 := fun h => hpl (.inl h)
    have h3 : ¬ place = 3 := fun h => hpl (.inr h)
    have e1 : pos (fun x : Thg => (x.place == 2 || x.place == 3) && x.place == place && x.who == name) w.things = pos (fun _ : Thg => false) w.things := by
      refine pos_congr (fun x => ?_) _
      by_cases h : x.place = place
      · rw [h, show (place == 2) = false by simpa using h2, show (place == 3) = false by simpa using h3]; rfl
      · have h2 : (x.place == place) = false := by simpa using h
        rw [h2]; simp
    rw [e1]
    clear e1
    have e0 : pos (fun _ : Thg => false) w.things = [] := by simp [pos]
    rw [e0]
    refine go ?_
    refine ⟨?_, by simp⟩ <;> intros
    exact ret1 ⟨none, 0, rfl, rfl⟩
theorem MobsP_one (x : Mob) (room : Int) (b : Nat) (R : HProp) : Trip Tryz.prog 100 ([.agg (mobC x).toArray] ++ [.pointer (some ⟨b, 0, none⟩)]) [R, blk b 3 [.int .i64 room]] (fun v Ps => v = .bool (x.room == room) ∧ Ps = [R, blk b 3 [.int .i64 room]]) := by
  refine Trip.of (m := 8) Tryz.func100 rfl rfl rfl ?_
  intro o Rs
  simp only [List.cons_append, List.nil_append, enumFrom]
  refine go ?_
  simp
theorem MobsP_spec (room : Int) (hl : w.mobs.length ≤ 1000000) (P : HProp) [hp : RW P d m w] : Trip Tryz.prog 42 [.pointer (some ⟨d, 0, none⟩), .int .i64 room] [P] (fun v Ps => ∃ A c, v = .slice A (ints (mobsL w room)).length c ∧ Ps = [P, sl E64 3 A c (ints (mobsL w room))]) := by
  refine Trip.of (m := 13) Tryz.func42 rfl rfl rfl ?_
  intro o Rs
  simp only [List.cons_append, List.nil_append, enumFrom]
  refine go ?_
  refine ⟨?_, by simp⟩ <;> intros
  rename_i b
  have F1 := plc_mob w.mobs m.moA m.moC hl P hp.mo 100 [.pointer (some ⟨b, 0, none⟩)] [P, blk b 3 [.int .i64 room]] [blk b 3 [.int .i64 room]] .here (fun x => x.room == room) (fun x _ => MobsP_one x room b P)
  unfold mobsL
  refine go ?_
  refine ⟨?_, by simp⟩ <;> intros
  exact ret1 ⟨_, _, rfl, rfl⟩
theorem WhoP_one (x : Chr × PA) (room : Int) (b : Nat) (R : HProp) : Trip Tryz.prog 102 ([.agg (chrC x.1 x.2).toArray] ++ [.pointer (some ⟨b, 0, none⟩)]) [R, blk b 3 [.int .i64 room]] (fun v Ps => v = .bool (x.1.on && x.1.room == room) ∧ Ps = [R, blk b 3 [.int .i64 room]]) := by
  refine Trip.of (m := 12) Tryz.func102 rfl rfl rfl ?_
  intro o Rs
  simp only [List.cons_append, List.nil_append, enumFrom]
  refine go ?_
  simp
  exact ⟨fun h _ => h, fun h h2 => by rw [h] at h2; cases h2⟩
theorem WhoP_spec (room : Int) (hl : w.chars.length ≤ 1000000) (lm : Laid m w) (P : HProp) [hp : RW P d m w] : Trip Tryz.prog 44 [.pointer (some ⟨d, 0, none⟩), .int .i64 room] [P] (fun v Ps => ∃ A c, v = .slice A (ints (whoL w room)).length c ∧ Ps = [P, sl E64 3 A c (ints (whoL w room))]) := by
  refine Trip.of (m := 13) Tryz.func44 rfl rfl rfl ?_
  intro o Rs
  simp only [List.cons_append, List.nil_append, enumFrom]
  have zc : w.chars.length = (w.chars.zip m.dn).length := by rw [List.length_zip, lm.1, Nat.min_self]
  refine go ?_
  refine ⟨?_, by simp⟩ <;> intros
  rename_i b
  have F1 := plc_chr (w.chars.zip m.dn) m.chA m.chC (by rw [← zc]; omega) P hp.ch 102 [.pointer (some ⟨b, 0, none⟩)] [P, blk b 3 [.int .i64 room]] [blk b 3 [.int .i64 room]] .here (fun x => x.1.on && x.1.room == room) (fun x _ => WhoP_one x room b P)
  rw [← zc, pos_zip (fun c : Chr => c.on && c.room == room) w.chars m.dn lm.1] at F1
  unfold whoL
  refine go ?_
  refine ⟨?_, by simp⟩ <;> intros
  exact ret1 ⟨_, _, rfl, rfl⟩
end
end Go.Proofs.YtflmbhkjhfmeoaaGreat
