/-
  The document's Check of tables, walked: rooms, things, rest.
  The document's Check of tables, walked: there.
-/
import Derived.Test.YtlibnpdbcjgegaaGreatMgC
namespace Go.Proofs.YtlibnpdbcjgegaaGreat
open Go.SL
set_option linter.unusedVariables false
set_option linter.unusedSimpArgs false
set_option maxHeartbeats 8000000
set_option maxRecDepth 20000
theorem ex_of {x : Rm} (h : ∀ j, j < 6 → 0 ≤ x.exits.getD j 0 ∧ x.exits.getD j 0 ≤ 1000) : ∀ z ∈ x.exits, 0 ≤ z ∧ z ≤ 1000 := by
  intro z hz
  obtain ⟨j, hj, rfl⟩ := List.mem_iff_getElem.1 hz
  have := h j (by simpa [Rm.exits] using hj)
  rwa [List.getD_eq_getElem?_getD, List.getElem?_eq_getElem hj] at this
theorem rooms_spec (e : Nat) (mt : Tay) (t : Tab) (hl : t.rooms.length ≤ 1000000) (hn : ∀ x ∈ t.rooms, x.name.length ≤ 1000000) (P : HProp) [hp : RT P e mt t] :
    Trip Tryz.prog 45 [.pointer (some ⟨e, 0, none⟩)] [P] (fun v Ps => ∃ b, v = .bool b ∧ Ps = [P] ∧ (b = true → t.rooms.length ≤ 60 ∧ Upto RmRow t.rooms t.rooms.length)) := by
  refine Trip.of (m := 78) Tryz.func45 rfl rfl rfl ?_
  intro o Rs
  simp only [List.cons_append, List.nil_append, enumFrom]
  haveI : Plan 5 [23] [0, 1, 2, 3, 4, 5, 6, 7, 8, 9, 10, 11, 12, 13, 14, 15, 16, 17, 18, 19, 20, 21, 22, 23, 24, 25, 26, 27, 28, 29, 30, 31, 32, 33, 34, 35, 36, 37, 38, 39] := ⟨⟩
  refine go ?_
  refine ⟨?_, by simp⟩ <;> intros
  refine loop (fun k => k ≤ t.rooms.length ∧ Upto RmRow t.rooms k) (fun k => [(0, .pointer (some ⟨e, 0, none⟩)), (3, .int .i64 (k : Int))]) (fun k => P :: Rs) (fun k => t.rooms.length - k) 0 ⟨Nat.zero_le _, upto_zero _ _⟩ fun k ⟨h1, h2⟩ => ?_
  by_cases hk : k < t.rooms.length
  · obtain ⟨x, hx⟩ : ∃ x, t.rooms[k]? = some x := ⟨_, List.getElem?_eq_getElem hk⟩
    have hxn := hn x (List.mem_of_getElem? hx)
    have F1 := in13_spec (x.id) (1) (1000)
    cases g1 : inB (x.id) (1) (1000)
    · rw [g1] at F1
      refine go ?_
      refine ⟨?_, by simp⟩ <;> intros
      exact ret1 ⟨false, rfl, rfl, by simp⟩
    rw [g1] at F1
    have F2 := RefWord_spec (x.name) (by omega)
    cases g2 : wordB (x.name)
    · rw [g2] at F2
      refine go ?_
      refine ⟨?_, by simp⟩ <;> intros
      exact ret1 ⟨false, rfl, rfl, by simp⟩
    rw [g2] at F2
    have F3 := in13_spec (x.kind) (0) (5)
    cases g3 : inB (x.kind) (0) (5)
    · rw [g3] at F3
      refine go ?_
      refine ⟨?_, by simp⟩ <;> intros
      exact ret1 ⟨false, rfl, rfl, by simp⟩
    rw [g3] at F3
    have F4 := in13_spec (x.price) (0) (1073741824)
    cases g4 : inB (x.price) (0) (1073741824)
    · rw [g4] at F4
      refine go ?_
      refine ⟨?_, by simp⟩ <;> intros
      exact ret1 ⟨false, rfl, rfl, by simp⟩
    rw [g4] at F4
    by_cases hk0 : 0 < k
    · obtain ⟨y, hy⟩ : ∃ y, t.rooms[((k : Int) - 1).toNat]? = some y := ⟨_, List.getElem?_eq_getElem (by omega)⟩
      by_cases hxy : x.id ≤ y.id
      · refine go ?_
        refine ⟨?_, by simp⟩ <;> intros
        exact ret1 ⟨false, rfl, rfl, by simp⟩
      have hup : ∀ z, 0 < k → t.rooms[k - 1]? = some z → z.id < x.id := fun z _ hz => by
        rw [show k - 1 = ((k : Int) - 1).toNat by omega, hy] at hz; cases hz; omega
      have hrow : Bx ((∀ z ∈ x.exits, 0 ≤ z ∧ z ≤ 1000) → RmRow t.rooms k x) := ⟨fun he => ⟨in_of g1, g2, in_of g3, in_of g4, hup, he⟩⟩
      refine go ?_
      refine ⟨?_, by simp⟩ <;> intros
      rename Nat => b
      clear F1 F2 F3 F4 g1 g2 g3 g4
      refine loop (fun j => j ≤ 6 ∧ ∀ i, i < j → 0 ≤ x.exits.getD i 0 ∧ x.exits.getD i 0 ≤ 1000) (fun j => [(0, .pointer (some ⟨e, 0, none⟩)), (3, .int .i64 (k : Int)), (4, .pointer (some ⟨b, 0, none⟩)), (5, .int .i64 (j : Int))]) (fun j => blk b 112 (rmC x) :: P :: Rs) (fun j => 6 - j) 0 ⟨Nat.zero_le _, fun i h => absurd h (by omega)⟩ fun j ⟨h3, h4⟩ => ?_
      by_cases hj : j < 6
      · have hst : 0 ≤ x.exits.getD j 0 ∧ x.exits.getD j 0 ≤ 1000 → Bx (∀ i, i < j + 1 → 0 ≤ x.exits.getD i 0 ∧ x.exits.getD i 0 ≤ 1000) := fun h => ⟨fun i hi => by
          rcases Nat.lt_or_ge i j with h5 | h5
          · exact h4 i h5
          · have : i = j := by omega
            subst this; exact h⟩
        obtain rfl | rfl | rfl | rfl | rfl | rfl : j = 0 ∨ j = 1 ∨ j = 2 ∨ j = 3 ∨ j = 4 ∨ j = 5 := by omega
        · have F5 := in13_spec x.e0 0 1000
          cases g5 : inB x.e0 0 1000
          · rw [g5] at F5
            clear hst hrow h4 h2 hup
            refine go ?_
            refine ⟨?_, by simp⟩ <;> intros
            refine W.ixb (q := 0) (j' := 4) (by exact rfl) (by exact rfl) (by decide) (by decide) rfl rfl rfl rfl ?_
            refine go ?_
            refine ⟨?_, by simp⟩ <;> intros
            exact ret1 ⟨false, rfl, rfl, by simp⟩
          · rw [g5] at F5
            have h5 := (hst (in_of g5)).get
            clear hst hrow h4 h2 hup
            refine go ?_
            refine ⟨?_, by simp⟩ <;> intros
            refine W.ixb (q := 0) (j' := 4) (by exact rfl) (by exact rfl) (by decide) (by decide) rfl rfl rfl rfl ?_
            refine go ?_
            refine ⟨?_, by simp⟩ <;> intros
            exact rnd 1 ⟨by decide, h5⟩ (by decide)
        · have F5 := in13_spec x.e1 0 1000
          cases g5 : inB x.e1 0 1000
          · rw [g5] at F5
            clear hst hrow h4 h2 hup
            refine go ?_
            refine ⟨?_, by simp⟩ <;> intros
            refine W.ixb (q := 1) (j' := 5) (by exact rfl) (by exact rfl) (by decide) (by decide) rfl rfl rfl rfl ?_
            refine go ?_
            refine ⟨?_, by simp⟩ <;> intros
            exact ret1 ⟨false, rfl, rfl, by simp⟩
          · rw [g5] at F5
            have h5 := (hst (in_of g5)).get
            clear hst hrow h4 h2 hup
            refine go ?_
            refine ⟨?_, by simp⟩ <;> intros
            refine W.ixb (q := 1) (j' := 5) (by exact rfl) (by exact rfl) (by decide) (by decide) rfl rfl rfl rfl ?_
            refine go ?_
            refine ⟨?_, by simp⟩ <;> intros
            exact rnd 2 ⟨by decide, h5⟩ (by decide)
        · have F5 := in13_spec x.e2 0 1000
          cases g5 : inB x.e2 0 1000
          · rw [g5] at F5
            clear hst hrow h4 h2 hup
            refine go ?_
            refine ⟨?_, by simp⟩ <;> intros
            refine W.ixb (q := 2) (j' := 6) (by exact rfl) (by exact rfl) (by decide) (by decide) rfl rfl rfl rfl ?_
            refine go ?_
            refine ⟨?_, by simp⟩ <;> intros
            exact ret1 ⟨false, rfl, rfl, by simp⟩
          · rw [g5] at F5
            have h5 := (hst (in_of g5)).get
            clear hst hrow h4 h2 hup
            refine go ?_
            refine ⟨?_, by simp⟩ <;> intros
            refine W.ixb (q := 2) (j' := 6) (by exact rfl) (by exact rfl) (by decide) (by decide) rfl rfl rfl rfl ?_
            refine go ?_
            refine ⟨?_, by simp⟩ <;> intros
            exact rnd 3 ⟨by decide, h5⟩ (by decide)
        · have F5 := in13_spec x.e3 0 1000
          cases g5 : inB x.e3 0 1000
          · rw [g5] at F5
            clear hst hrow h4 h2 hup
            refine go ?_
            refine ⟨?_, by simp⟩ <;> intros
            refine W.ixb (q := 3) (j' := 7) (by exact rfl) (by exact rfl) (by decide) (by decide) rfl rfl rfl rfl ?_
            refine go ?_
            refine ⟨?_, by simp⟩ <;> intros
            exact ret1 ⟨false, rfl, rfl, by simp⟩
          · rw [g5] at F5
            have h5 := (hst (in_of g5)).get
            clear hst hrow h4 h2 hup
            refine go ?_
            refine ⟨?_, by simp⟩ <;> intros
            refine W.ixb (q := 3) (j' := 7) (by exact rfl) (by exact rfl) (by decide) (by decide) rfl rfl rfl rfl ?_
            refine go ?_
            refine ⟨?_, by simp⟩ <;> intros
            exact rnd 4 ⟨by decide, h5⟩ (by decide)
        · have F5 := in13_spec x.e4 0 1000
          cases g5 : inB x.e4 0 1000
          · rw [g5] at F5
            clear hst hrow h4 h2 hup
            refine go ?_
            refine ⟨?_, by simp⟩ <;> intros
            refine W.ixb (q := 4) (j' := 8) (by exact rfl) (by exact rfl) (by decide) (by decide) rfl rfl rfl rfl ?_
            refine go ?_
            refine ⟨?_, by simp⟩ <;> intros
            exact ret1 ⟨false, rfl, rfl, by simp⟩
          · rw [g5] at F5
            have h5 := (hst (in_of g5)).get
            clear hst hrow h4 h2 hup
            refine go ?_
            refine ⟨?_, by simp⟩ <;> intros
            refine W.ixb (q := 4) (j' := 8) (by exact rfl) (by exact rfl) (by decide) (by decide) rfl rfl rfl rfl ?_
            refine go ?_
            refine ⟨?_, by simp⟩ <;> intros
            exact rnd 5 ⟨by decide, h5⟩ (by decide)
        · have F5 := in13_spec x.e5 0 1000
          cases g5 : inB x.e5 0 1000
          · rw [g5] at F5
            clear hst hrow h4 h2 hup
            refine go ?_
            refine ⟨?_, by simp⟩ <;> intros
            refine W.ixb (q := 5) (j' := 9) (by exact rfl) (by exact rfl) (by decide) (by decide) rfl rfl rfl rfl ?_
            refine go ?_
            refine ⟨?_, by simp⟩ <;> intros
            exact ret1 ⟨false, rfl, rfl, by simp⟩
          · rw [g5] at F5
            have h5 := (hst (in_of g5)).get
            clear hst hrow h4 h2 hup
            refine go ?_
            refine ⟨?_, by simp⟩ <;> intros
            refine W.ixb (q := 5) (j' := 9) (by exact rfl) (by exact rfl) (by decide) (by decide) rfl rfl rfl rfl ?_
            refine go ?_
            refine ⟨?_, by simp⟩ <;> intros
            exact rnd 6 ⟨by decide, h5⟩ (by decide)
      · have h6 : j = 6 := by omega
        subst h6
        have hr := hrow.get (ex_of h4)
        have h5 := upto_step h2 hx hr
        clear hrow h4 hr hup
        refine go ?_
        refine ⟨?_, by simp⟩ <;> intros
        exact rnd (k + 1) ⟨hk, h5⟩ (by omega)
    · have hup : ∀ z, 0 < k → t.rooms[k - 1]? = some z → z.id < x.id := fun z h _ => absurd h hk0
      have hrow : Bx ((∀ z ∈ x.exits, 0 ≤ z ∧ z ≤ 1000) → RmRow t.rooms k x) := ⟨fun he => ⟨in_of g1, g2, in_of g3, in_of g4, hup, he⟩⟩
      refine go ?_
      refine ⟨?_, by simp⟩ <;> intros
      rename Nat => b
      clear F1 F2 F3 F4 g1 g2 g3 g4
      refine loop (fun j => j ≤ 6 ∧ ∀ i, i < j → 0 ≤ x.exits.getD i 0 ∧ x.exits.getD i 0 ≤ 1000) (fun j => [(0, .pointer (some ⟨e, 0, none⟩)), (3, .int .i64 (k : Int)), (4, .pointer (some ⟨b, 0, none⟩)), (5, .int .i64 (j : Int))]) (fun j => blk b 112 (rmC x) :: P :: Rs) (fun j => 6 - j) 0 ⟨Nat.zero_le _, fun i h => absurd h (by omega)⟩ fun j ⟨h3, h4⟩ => ?_
      by_cases hj : j < 6
      · have hst : 0 ≤ x.exits.getD j 0 ∧ x.exits.getD j 0 ≤ 1000 → Bx (∀ i, i < j + 1 → 0 ≤ x.exits.getD i 0 ∧ x.exits.getD i 0 ≤ 1000) := fun h => ⟨fun i hi => by
          rcases Nat.lt_or_ge i j with h5 | h5
          · exact h4 i h5
          · have : i = j := by omega
            subst this; exact h⟩
        obtain rfl | rfl | rfl | rfl | rfl | rfl : j = 0 ∨ j = 1 ∨ j = 2 ∨ j = 3 ∨ j = 4 ∨ j = 5 := by omega
        · have F5 := in13_spec x.e0 0 1000
          cases g5 : inB x.e0 0 1000
          · rw [g5] at F5
            clear hst hrow h4 h2 hup
            refine go ?_
            refine ⟨?_, by simp⟩ <;> intros
            refine W.ixb (q := 0) (j' := 4) (by exact rfl) (by exact rfl) (by decide) (by decide) rfl rfl rfl rfl ?_
            refine go ?_
            refine ⟨?_, by simp⟩ <;> intros
            exact ret1 ⟨false, rfl, rfl, by simp⟩
          · rw [g5] at F5
            have h5 := (hst (in_of g5)).get
            clear hst hrow h4 h2 hup
            refine go ?_
            refine ⟨?_, by simp⟩ <;> intros
            refine W.ixb (q := 0) (j' := 4) (by exact rfl) (by exact rfl) (by decide) (by decide) rfl rfl rfl rfl ?_
            refine go ?_
            refine ⟨?_, by simp⟩ <;> intros
            exact rnd 1 ⟨by decide, h5⟩ (by decide)
        · have F5 := in13_spec x.e1 0 1000
          cases g5 : inB x.e1 0 1000
          · rw [g5] at F5
            clear hst hrow h4 h2 hup
            refine go ?_
            refine ⟨?_, by simp⟩ <;> intros
            refine W.ixb (q := 1) (j' := 5) (by exact rfl) (by exact rfl) (by decide) (by decide) rfl rfl rfl rfl ?_
            refine go ?_
            refine ⟨?_, by simp⟩ <;> intros
            exact ret1 ⟨false, rfl, rfl, by simp⟩
          · rw [g5] at F5
            have h5 := (hst (in_of g5)).get
            clear hst hrow h4 h2 hup
            refine go ?_
            refine ⟨?_, by simp⟩ <;> intros
            refine W.ixb (q := 1) (j' := 5) (by exact rfl) (by exact rfl) (by decide) (by decide) rfl rfl rfl rfl ?_
            refine go ?_
            refine ⟨?_, by simp⟩ <;> intros
            exact rnd 2 ⟨by decide, h5⟩ (by decide)
        · have F5 := in13_spec x.e2 0 1000
          cases g5 : inB x.e2 0 1000
          · rw [g5] at F5
            clear hst hrow h4 h2 hup
            refine go ?_
            refine ⟨?_, by simp⟩ <;> intros
            refine W.ixb (q := 2) (j' := 6) (by exact rfl) (by exact rfl) (by decide) (by decide) rfl rfl rfl rfl ?_
            refine go ?_
            refine ⟨?_, by simp⟩ <;> intros
            exact ret1 ⟨false, rfl, rfl, by simp⟩
          · rw [g5] at F5
            have h5 := (hst (in_of g5)).get
            clear hst hrow h4 h2 hup
            refine go ?_
            refine ⟨?_, by simp⟩ <;> intros
            refine W.ixb (q := 2) (j' := 6) (by exact rfl) (by exact rfl) (by decide) (by decide) rfl rfl rfl rfl ?_
            refine go ?_
            refine ⟨?_, by simp⟩ <;> intros
            exact rnd 3 ⟨by decide, h5⟩ (by decide)
        · have F5 := in13_spec x.e3 0 1000
          cases g5 : inB x.e3 0 1000
          · rw [g5] at F5
            clear hst hrow h4 h2 hup
            refine go ?_
            refine ⟨?_, by simp⟩ <;> intros
            refine W.ixb (q := 3) (j' := 7) (by exact rfl) (by exact rfl) (by decide) (by decide) rfl rfl rfl rfl ?_
            refine go ?_
            refine ⟨?_, by simp⟩ <;> intros
            exact ret1 ⟨false, rfl, rfl, by simp⟩
          · rw [g5] at F5
            have h5 := (hst (in_of g5)).get
            clear hst hrow h4 h2 hup
            refine go ?_
            refine ⟨?_, by simp⟩ <;> intros
            refine W.ixb (q := 3) (j' := 7) (by exact rfl) (by exact rfl) (by decide) (by decide) rfl rfl rfl rfl ?_
            refine go ?_
            refine ⟨?_, by simp⟩ <;> intros
            exact rnd 4 ⟨by decide, h5⟩ (by decide)
        · have F5 := in13_spec x.e4 0 1000
          cases g5 : inB x.e4 0 1000
          · rw [g5] at F5
            clear hst hrow h4 h2 hup
            refine go ?_
            refine ⟨?_, by simp⟩ <;> intros
            refine W.ixb (q := 4) (j' := 8) (by exact rfl) (by exact rfl) (by decide) (by decide) rfl rfl rfl rfl ?_
            refine go ?_
            refine ⟨?_, by simp⟩ <;> intros
            exact ret1 ⟨false, rfl, rfl, by simp⟩
          · rw [g5] at F5
            have h5 := (hst (in_of g5)).get
            clear hst hrow h4 h2 hup
            refine go ?_
            refine ⟨?_, by simp⟩ <;> intros
            refine W.ixb (q := 4) (j' := 8) (by exact rfl) (by exact rfl) (by decide) (by decide) rfl rfl rfl rfl ?_
            refine go ?_
            refine ⟨?_, by simp⟩ <;> intros
            exact rnd 5 ⟨by decide, h5⟩ (by decide)
        · have F5 := in13_spec x.e5 0 1000
          cases g5 : inB x.e5 0 1000
          · rw [g5] at F5
            clear hst hrow h4 h2 hup
            refine go ?_
            refine ⟨?_, by simp⟩ <;> intros
            refine W.ixb (q := 5) (j' := 9) (by exact rfl) (by exact rfl) (by decide) (by decide) rfl rfl rfl rfl ?_
            refine go ?_
            refine ⟨?_, by simp⟩ <;> intros
            exact ret1 ⟨false, rfl, rfl, by simp⟩
          · rw [g5] at F5
            have h5 := (hst (in_of g5)).get
            clear hst hrow h4 h2 hup
            refine go ?_
            refine ⟨?_, by simp⟩ <;> intros
            refine W.ixb (q := 5) (j' := 9) (by exact rfl) (by exact rfl) (by decide) (by decide) rfl rfl rfl rfl ?_
            refine go ?_
            refine ⟨?_, by simp⟩ <;> intros
            exact rnd 6 ⟨by decide, h5⟩ (by decide)
      · have h6 : j = 6 := by omega
        subst h6
        have hr := hrow.get (ex_of h4)
        have h5 := upto_step h2 hx hr
        clear hrow h4 hr hup
        refine go ?_
        refine ⟨?_, by simp⟩ <;> intros
        exact rnd (k + 1) ⟨hk, h5⟩ (by omega)
  have hq : k = t.rooms.length := by omega
  subst hq
  replace h2 := Bx.mk h2
  refine go ?_
  refine ⟨?_, by simp⟩ <;> intros
  exact ret1 ⟨decide ((t.rooms.length : Int) ≤ 60), rfl, rfl, fun h => ⟨by have := of_decide_eq_true h; omega, h2.get⟩⟩
end Go.Proofs.YtlibnpdbcjgegaaGreat
namespace Go.Proofs.YtlibnpdbcjgegaaGreat
open Go.SL
set_option linter.unusedVariables false
set_option linter.unusedSimpArgs false
set_option maxHeartbeats 8000000
set_option maxRecDepth 20000
abbrev Up {α : Type} (p : α → Prop) (l : List α) (n : Nat) : Prop := Upto (fun _ _ x => p x) l n
def hasR (t : Tab) (x : Int) : Prop := ∃ k, roomI t x = some k
def hasP (t : Tab) (x : Int) : Prop := ∃ k, protoI t x = some k
def RmT (t : Tab) (r : Rm) : Prop := ∀ x ∈ r.exits, x = 0 ∨ hasR t x
def RcT (t : Tab) (r : Rcp) : Prop := hasP t r.out ∧ ∀ x ∈ r.needs, hasP t x
def QsT (t : Tab) (q : Qst) : Prop := hasP t q.item ∧ (q.reward = 0 ∨ hasP t q.reward)
def ShT (t : Tab) (s : Shp) : Prop := (∃ k r, roomI t s.room = some k ∧ t.rooms[k]? = some r ∧ r.kind = 1) ∧ ∀ x ∈ s.items, hasP t x
theorem up_all {α : Type} {p : α → Prop} {l : List α} (h : Up p l l.length) : ∀ x ∈ l, p x := fun x hx => by
  obtain ⟨k, hk, rfl⟩ := List.mem_iff_getElem.1 hx
  exact h k _ hk (List.getElem?_eq_getElem hk)
theorem ex_all {p : Int → Prop} {x : Rm} (h : ∀ j, j < 6 → p (x.exits.getD j 0)) : ∀ z ∈ x.exits, p z := by
  intro z hz
  obtain ⟨j, hj, rfl⟩ := List.mem_iff_getElem.1 hz
  have := h j (by simpa [Rm.exits] using hj)
  rwa [List.getD_eq_getElem?_getD, List.getElem?_eq_getElem hj] at this
theorem li_all {p : Int → Prop} {l : List Int} {n : Nat} (hn : n = l.length) (h : ∀ j z, j < n → l[j]? = some z → p z) : ∀ z ∈ l, p z := by
  intro z hz
  obtain ⟨j, hj, rfl⟩ := List.mem_iff_getElem.1 hz
  exact h j _ (by omega) (List.getElem?_eq_getElem hj)
theorem li_step {p : Int → Prop} {l : List Int} {n : Nat} {x : Int} (h : ∀ j z, j < n → l[j]? = some z → p z) (hx : l[n]? = some x) (hp : p x) : ∀ j z, j < n + 1 → l[j]? = some z → p z := fun j z hj hz => by
  rcases Nat.lt_or_ge j n with h1 | h1
  · exact h j z h1 hz
  · have : j = n := by omega
    subst this; rw [hx] at hz; cases hz; exact hp
theorem there_spec (e : Nat) (mt : Tay) (t : Tab) (lt : TLaid mt t) (hl1 : t.rooms.length ≤ 1000000) (hl2 : t.protos.length ≤ 1000000) (hl3 : t.mobs.length ≤ 1000000) (hl4 : t.recipes.length ≤ 1000000) (hl5 : t.quests.length ≤ 1000000) (hl6 : t.shops.length ≤ 1000000) (hn : ∀ x ∈ t.recipes, x.needs.length ≤ 1000000) (hi : ∀ x ∈ t.shops, x.items.length ≤ 1000000) (P : HProp) [hp : RT P e mt t] :
    Trip Tryz.prog 48 [.pointer (some ⟨e, 0, none⟩)] [P] (fun v Ps => ∃ b, v = .bool b ∧ Ps = [P] ∧ (b = true → There t)) := by
  refine Trip.of (m := 211) Tryz.func48 rfl rfl rfl ?_
  intro o Rs
  simp only [List.cons_append, List.nil_append, enumFrom]
  have zr : t.recipes.length = (t.recipes.zip mt.nd).length := by rw [List.length_zip, lt.1, Nat.min_self]
  have zs : t.shops.length = (t.shops.zip mt.it).length := by rw [List.length_zip, lt.2, Nat.min_self]
  refine go ?_
  refine ⟨?_, by simp⟩ <;> intros
  refine loop (fun k => k ≤ t.rooms.length ∧ Up (RmT t) t.rooms k) (fun k => [(0, .pointer (some ⟨e, 0, none⟩)), (3, .int .i64 (k : Int))]) (fun k => P :: Rs) (fun k => t.rooms.length - k) 0 ⟨Nat.zero_le _, upto_zero _ _⟩ fun k ⟨h1, h2⟩ => ?_
  by_cases hk : k < t.rooms.length
  · obtain ⟨x, hx⟩ : ∃ x, t.rooms[k]? = some x := ⟨_, List.getElem?_eq_getElem hk⟩
    refine go ?_
    refine ⟨?_, by simp⟩ <;> intros
    refine loop (fun j => j ≤ 6 ∧ ∀ i, i < j → x.exits.getD i 0 = 0 ∨ hasR t (x.exits.getD i 0)) (fun j => [(0, .pointer (some ⟨e, 0, none⟩)), (3, .int .i64 (k : Int)), (4, .int .i64 (j : Int))]) (fun j => P :: Rs) (fun j => 6 - j) 0 ⟨Nat.zero_le _, fun i h => absurd h (by omega)⟩ fun j ⟨h3, h4⟩ => ?_
    by_cases hj : j < 6
    · have hst : x.exits.getD j 0 = 0 ∨ hasR t (x.exits.getD j 0) → Bx (∀ i, i < j + 1 → x.exits.getD i 0 = 0 ∨ hasR t (x.exits.getD i 0)) := fun h => ⟨fun i hi => by
        rcases Nat.lt_or_ge i j with h5 | h5
        · exact h4 i h5
        · have : i = j := by omega
          subst this; exact h⟩
      obtain rfl | rfl | rfl | rfl | rfl | rfl : j = 0 ∨ j = 1 ∨ j = 2 ∨ j = 3 ∨ j = 4 ∨ j = 5 := by omega
      · by_cases h0 : x.e0 = 0
        · have h5 := (hst (.inl h0)).get
          clear hst h4 h2
          refine go ?_
          refine ⟨?_, by simp⟩ <;> intros
          exact rnd _ ⟨by omega, h5⟩ (by omega)
        · have F1 := Room_spec e mt t x.e0 (by omega) P
          cases hr : roomI t x.e0 with
          | none =>
            rw [hr] at F1
            simp only [iv] at F1
            clear hst h4 h2
            refine go ?_
            refine ⟨?_, by simp⟩ <;> intros
            exact ret1 ⟨false, rfl, rfl, by simp⟩
          | some q =>
            rw [hr] at F1
            simp only [iv] at F1
            have h5 := (hst (.inr ⟨q, hr⟩)).get
            clear hst h4 h2
            refine go ?_
            refine ⟨?_, by simp⟩ <;> intros
            exact rnd _ ⟨by omega, h5⟩ (by omega)
      · by_cases h0 : x.e1 = 0
        · have h5 := (hst (.inl h0)).get
          clear hst h4 h2
          refine go ?_
          refine ⟨?_, by simp⟩ <;> intros
          exact rnd _ ⟨by omega, h5⟩ (by omega)
        · have F1 := Room_spec e mt t x.e1 (by omega) P
          cases hr : roomI t x.e1 with
          | none =>
            rw [hr] at F1
            simp only [iv] at F1
            clear hst h4 h2
            refine go ?_
            refine ⟨?_, by simp⟩ <;> intros
            exact ret1 ⟨false, rfl, rfl, by simp⟩
          | some q =>
            rw [hr] at F1
            simp only [iv] at F1
            have h5 := (hst (.inr ⟨q, hr⟩)).get
            clear hst h4 h2
            refine go ?_
            refine ⟨?_, by simp⟩ <;> intros
            exact rnd _ ⟨by omega, h5⟩ (by omega)
      · by_cases h0 : x.e2 = 0
        · have h5 := (hst (.inl h0)).get
          clear hst h4 h2
          refine go ?_
          refine ⟨?_, by simp⟩ <;> intros
          exact rnd _ ⟨by omega, h5⟩ (by omega)
        · have F1 := Room_spec e mt t x.e2 (by omega) P
          cases hr : roomI t x.e2 with
          | none =>
            rw [hr] at F1
            simp only [iv] at F1
            clear hst h4 h2
            refine go ?_
            refine ⟨?_, by simp⟩ <;> intros
            exact ret1 ⟨false, rfl, rfl, by simp⟩
          | some q =>
            rw [hr] at F1
            simp only [iv] at F1
            have h5 := (hst (.inr ⟨q, hr⟩)).get
            clear hst h4 h2
            refine go ?_
            refine ⟨?_, by simp⟩ <;> intros
            exact rnd _ ⟨by omega, h5⟩ (by omega)
      · by_cases h0 : x.e3 = 0
        · have h5 := (hst (.inl h0)).get
          clear hst h4 h2
          refine go ?_
          refine ⟨?_, by simp⟩ <;> intros
          exact rnd _ ⟨by omega, h5⟩ (by omega)
        · have F1 := Room_spec e mt t x.e3 (by omega) P
          cases hr : roomI t x.e3 with
          | none =>
            rw [hr] at F1
            simp only [iv] at F1
            clear hst h4 h2
            refine go ?_
            refine ⟨?_, by simp⟩ <;> intros
            exact ret1 ⟨false, rfl, rfl, by simp⟩
          | some q =>
            rw [hr] at F1
            simp only [iv] at F1
            have h5 := (hst (.inr ⟨q, hr⟩)).get
            clear hst h4 h2
            refine go ?_
            refine ⟨?_, by simp⟩ <;> intros
            exact rnd _ ⟨by omega, h5⟩ (by omega)
      · by_cases h0 : x.e4 = 0
        · have h5 := (hst (.inl h0)).get
          clear hst h4 h2
          refine go ?_
          refine ⟨?_, by simp⟩ <;> intros
          exact rnd _ ⟨by omega, h5⟩ (by omega)
        · have F1 := Room_spec e mt t x.e4 (by omega) P
          cases hr : roomI t x.e4 with
          | none =>
            rw [hr] at F1
            simp only [iv] at F1
            clear hst h4 h2
            refine go ?_
            refine ⟨?_, by simp⟩ <;> intros
            exact ret1 ⟨false, rfl, rfl, by simp⟩
          | some q =>
            rw [hr] at F1
            simp only [iv] at F1
            have h5 := (hst (.inr ⟨q, hr⟩)).get
            clear hst h4 h2
            refine go ?_
            refine ⟨?_, by simp⟩ <;> intros
            exact rnd _ ⟨by omega, h5⟩ (by omega)
      · by_cases h0 : x.e5 = 0
        · have h5 := (hst (.inl h0)).get
          clear hst h4 h2
          refine go ?_
          refine ⟨?_, by simp⟩ <;> intros
          exact rnd _ ⟨by omega, h5⟩ (by omega)
        · have F1 := Room_spec e mt t x.e5 (by omega) P
          cases hr : roomI t x.e5 with
          | none =>
            rw [hr] at F1
            simp only [iv] at F1
            clear hst h4 h2
            refine go ?_
            refine ⟨?_, by simp⟩ <;> intros
            exact ret1 ⟨false, rfl, rfl, by simp⟩
          | some q =>
            rw [hr] at F1
            simp only [iv] at F1
            have h5 := (hst (.inr ⟨q, hr⟩)).get
            clear hst h4 h2
            refine go ?_
            refine ⟨?_, by simp⟩ <;> intros
            exact rnd _ ⟨by omega, h5⟩ (by omega)
    · have h6 : j = 6 := by omega
      subst h6
      have h5 := Bx.mk (upto_step (p := fun _ _ x => RmT t x) h2 hx (ex_all (p := fun z => z = 0 ∨ hasR t z) h4))
      clear h4 h2
      refine go ?_
      refine ⟨?_, by simp⟩ <;> intros
      exact rnd (k + 1) ⟨hk, h5.get⟩ (by omega)
  have hq : k = t.rooms.length := by omega
  subst hq
  have g1 := Bx.mk h2
  clear h2
  refine go ?_
  refine ⟨?_, by simp⟩ <;> intros
  clear hk h1
  refine loop (fun k => k ≤ t.mobs.length ∧ Up (fun m : Mpr => hasR t m.home) t.mobs k) (fun k => [(0, .pointer (some ⟨e, 0, none⟩)), (5, .int .i64 (k : Int))]) (fun k => P :: Rs) (fun k => t.mobs.length - k) 0 ⟨Nat.zero_le _, upto_zero _ _⟩ fun k ⟨h1, h2⟩ => ?_
  by_cases hk : k < t.mobs.length
  · obtain ⟨x, hx⟩ : ∃ x, t.mobs[k]? = some x := ⟨_, List.getElem?_eq_getElem hk⟩
    have F1 := Room_spec e mt t x.home (by omega) P
    cases hr : roomI t x.home with
    | none =>
      rw [hr] at F1
      simp only [iv] at F1
      clear h2
      refine go ?_
      refine ⟨?_, by simp⟩ <;> intros
      exact ret1 ⟨false, rfl, rfl, by simp⟩
    | some q =>
      rw [hr] at F1
      simp only [iv] at F1
      have h5 := Bx.mk (upto_step (p := fun _ _ (m : Mpr) => hasR t m.home) h2 hx ⟨q, hr⟩)
      clear h2
      refine go ?_
      refine ⟨?_, by simp⟩ <;> intros
      exact rnd (k + 1) ⟨hk, h5.get⟩ (by omega)
  have hq : k = t.mobs.length := by omega
  subst hq
  have g2 := Bx.mk h2
  clear h2
  refine go ?_
  refine ⟨?_, by simp⟩ <;> intros
  clear hk h1
  refine loop (fun k => k ≤ t.recipes.length ∧ Up (RcT t) t.recipes k) (fun k => [(0, .pointer (some ⟨e, 0, none⟩)), (6, .int .i64 (k : Int))]) (fun k => P :: Rs) (fun k => t.recipes.length - k) 0 ⟨Nat.zero_le _, upto_zero _ _⟩ fun k ⟨h1, h2⟩ => ?_
  by_cases hk : k < t.recipes.length
  · obtain ⟨x, hx⟩ : ∃ x, t.recipes[k]? = some x := ⟨_, List.getElem?_eq_getElem hk⟩
    obtain ⟨⟨A1, c1⟩, hzx, _⟩ := zip_get hx lt.1
    haveI : Rd P E64 A1 x.needs := ⟨hp.nd _ (List.mem_of_getElem? hzx)⟩
    have hnl := hn x (List.mem_of_getElem? hx)
    have F1 := Proto_spec e mt t x.out (by omega) P
    cases hr : protoI t x.out with
    | none =>
      rw [hr] at F1
      simp only [iv] at F1
      clear h2
      refine go ?_
      refine ⟨?_, by simp⟩ <;> intros
      exact ret1 ⟨false, rfl, rfl, by simp⟩
    | some q =>
      rw [hr] at F1
      simp only [iv] at F1
      have hout : hasP t x.out := ⟨q, hr⟩
      clear hr
      refine go ?_
      refine ⟨?_, by simp⟩ <;> intros
      clear F1
      refine loop (fun j => j ≤ x.needs.length ∧ ∀ i z, i < j → x.needs[i]? = some z → hasP t z) (fun j => [(0, .pointer (some ⟨e, 0, none⟩)), (6, .int .i64 (k : Int)), (7, .int .i64 (j : Int))]) (fun j => P :: Rs) (fun j => x.needs.length - j) 0 ⟨Nat.zero_le _, fun i z h => absurd h (by omega)⟩ fun j ⟨h3, h4⟩ => ?_
      by_cases hj : j < x.needs.length
      · obtain ⟨z, hz⟩ : ∃ z, x.needs[j]? = some z := ⟨_, List.getElem?_eq_getElem hj⟩
        have F1 := Proto_spec e mt t z (by omega) P
        cases hr : protoI t z with
        | none =>
          rw [hr] at F1
          simp only [iv] at F1
          clear h4 h2
          refine go ?_
          refine ⟨?_, by simp⟩ <;> intros
          exact ret1 ⟨false, rfl, rfl, by simp⟩
        | some q =>
          rw [hr] at F1
          simp only [iv] at F1
          have h5 := Bx.mk (li_step (p := hasP t) h4 hz ⟨q, hr⟩)
          clear h4 h2
          refine go ?_
          refine ⟨?_, by simp⟩ <;> intros
          exact rnd (j + 1) ⟨hj, h5.get⟩ (by omega)
      · have h5 := Bx.mk (upto_step (p := fun _ _ x => RcT t x) h2 hx ⟨hout, li_all (show j = x.needs.length by omega) h4⟩)
        clear h4 h2
        refine go ?_
        refine ⟨?_, by simp⟩ <;> intros
        exact rnd (k + 1) ⟨hk, h5.get⟩ (by omega)
  have hq : k = t.recipes.length := by omega
  subst hq
  have g3 := Bx.mk h2
  clear h2
  refine go ?_
  refine ⟨?_, by simp⟩ <;> intros
  clear hk h1
  refine loop (fun k => k ≤ t.quests.length ∧ Up (QsT t) t.quests k) (fun k => [(0, .pointer (some ⟨e, 0, none⟩)), (8, .int .i64 (k : Int))]) (fun k => P :: Rs) (fun k => t.quests.length - k) 0 ⟨Nat.zero_le _, upto_zero _ _⟩ fun k ⟨h1, h2⟩ => ?_
  by_cases hk : k < t.quests.length
  · obtain ⟨x, hx⟩ : ∃ x, t.quests[k]? = some x := ⟨_, List.getElem?_eq_getElem hk⟩
    have F1 := Proto_spec e mt t x.item (by omega) P
    have F2 := Proto_spec e mt t x.reward (by omega) P
    cases hr : protoI t x.item with
    | none =>
      rw [hr] at F1
      simp only [iv] at F1
      clear h2
      refine go ?_
      refine ⟨?_, by simp⟩ <;> intros
      exact ret1 ⟨false, rfl, rfl, by simp⟩
    | some q =>
      rw [hr] at F1
      simp only [iv] at F1
      by_cases h0 : x.reward = 0
      · have h5 := Bx.mk (upto_step (p := fun _ _ (q : Qst) => QsT t q) h2 hx ⟨⟨q, hr⟩, .inl h0⟩)
        clear h2 hr F2
        refine go ?_
        refine ⟨?_, by simp⟩ <;> intros
        exact rnd (k + 1) ⟨hk, h5.get⟩ (by omega)
      · cases hr2 : protoI t x.reward with
        | none =>
          rw [hr2] at F2
          simp only [iv] at F2
          clear h2 hr
          refine go ?_
          refine ⟨?_, by simp⟩ <;> intros
          exact ret1 ⟨false, rfl, rfl, by simp⟩
        | some q2 =>
          rw [hr2] at F2
          simp only [iv] at F2
          have h5 := Bx.mk (upto_step (p := fun _ _ (q : Qst) => QsT t q) h2 hx ⟨⟨q, hr⟩, .inr ⟨q2, hr2⟩⟩)
          clear h2 hr hr2
          refine go ?_
          refine ⟨?_, by simp⟩ <;> intros
          exact rnd (k + 1) ⟨hk, h5.get⟩ (by omega)
  have hq : k = t.quests.length := by omega
  subst hq
  have g4 := Bx.mk h2
  clear h2
  refine go ?_
  refine ⟨?_, by simp⟩ <;> intros
  clear hk h1
  refine loop (fun k => k ≤ t.shops.length ∧ Up (ShT t) t.shops k) (fun k => [(0, .pointer (some ⟨e, 0, none⟩)), (10, .int .i64 (k : Int))]) (fun k => P :: Rs) (fun k => t.shops.length - k) 0 ⟨Nat.zero_le _, upto_zero _ _⟩ fun k ⟨h1, h2⟩ => ?_
  by_cases hk : k < t.shops.length
  · obtain ⟨x, hx⟩ : ∃ x, t.shops[k]? = some x := ⟨_, List.getElem?_eq_getElem hk⟩
    obtain ⟨⟨A1, c1⟩, hzx, _⟩ := zip_get hx lt.2
    haveI : Rd P E64 A1 x.items := ⟨hp.it _ (List.mem_of_getElem? hzx)⟩
    have hnl := hi x (List.mem_of_getElem? hx)
    have F1 := Room_spec e mt t x.room (by omega) P
    cases hr : roomI t x.room with
    | none =>
      rw [hr] at F1
      simp only [iv] at F1
      clear h2
      refine go ?_
      refine ⟨?_, by simp⟩ <;> intros
      exact ret1 ⟨false, rfl, rfl, by simp⟩
    | some q =>
      rw [hr] at F1
      simp only [iv] at F1
      obtain ⟨y, hy, _⟩ := find_get hr
      have hql := find_lt hr
      by_cases hkd : y.kind = 1
      · have hout : ∃ k r, roomI t x.room = some k ∧ t.rooms[k]? = some r ∧ r.kind = 1 := ⟨q, y, hr, hy, hkd⟩
        clear hr
        refine go ?_
        refine ⟨?_, by simp⟩ <;> intros
        clear F1
        refine loop (fun j => j ≤ x.items.length ∧ ∀ i z, i < j → x.items[i]? = some z → hasP t z) (fun j => [(0, .pointer (some ⟨e, 0, none⟩)), (10, .int .i64 (k : Int)), (12, .int .i64 (j : Int))]) (fun j => P :: Rs) (fun j => x.items.length - j) 0 ⟨Nat.zero_le _, fun i z h => absurd h (by omega)⟩ fun j ⟨h3, h4⟩ => ?_
        by_cases hj : j < x.items.length
        · obtain ⟨z, hz⟩ : ∃ z, x.items[j]? = some z := ⟨_, List.getElem?_eq_getElem hj⟩
          have F1 := Proto_spec e mt t z (by omega) P
          cases hr : protoI t z with
          | none =>
            rw [hr] at F1
            simp only [iv] at F1
            clear h4 h2
            refine go ?_
            refine ⟨?_, by simp⟩ <;> intros
            exact ret1 ⟨false, rfl, rfl, by simp⟩
          | some q =>
            rw [hr] at F1
            simp only [iv] at F1
            have h5 := Bx.mk (li_step (p := hasP t) h4 hz ⟨q, hr⟩)
            clear h4 h2
            refine go ?_
            refine ⟨?_, by simp⟩ <;> intros
            exact rnd (j + 1) ⟨hj, h5.get⟩ (by omega)
        · have h5 := Bx.mk (upto_step (p := fun _ _ x => ShT t x) h2 hx ⟨hout, li_all (show j = x.items.length by omega) h4⟩)
          clear h4 h2
          refine go ?_
          refine ⟨?_, by simp⟩ <;> intros
          exact rnd (k + 1) ⟨hk, h5.get⟩ (by omega)
      · clear h2
        refine go ?_
        refine ⟨?_, by simp⟩ <;> intros
        exact ret1 ⟨false, rfl, rfl, by simp⟩
  have hq : k = t.shops.length := by omega
  subst hq
  have g5 := Bx.mk h2
  clear h2
  refine go ?_
  refine ⟨?_, by simp⟩ <;> intros
  exact ret1 ⟨true, rfl, rfl, fun _ => ⟨up_all g1.get, up_all g2.get, up_all g3.get, up_all g4.get, up_all g5.get⟩⟩
end Go.Proofs.YtlibnpdbcjgegaaGreat
