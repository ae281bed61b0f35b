/-
  The program's tables: what each row must be by itself; what the rows name is there.
-/
import Derived.Test.YtckkipangiapbaaGreatEnIn
namespace Go.Proofs.YtckkipangiapbaaGreat
open Go.SL
set_option linter.unusedVariables false
set_option linter.unusedSimpArgs false
set_option maxHeartbeats 8000000
set_option maxRecDepth 20000
theorem word_len {s : Tx} (h : wordB s = true) : s.length ≤ 24 := by
  simp only [wordB, Bool.and_eq_true, decide_eq_true_eq] at h; exact h.2
section
theorem things_yes (d : Nat) (m : Tay) (t : Tab) (g : Good t) (P : HProp) [hp : RT P d m t] : Trip Tryz.prog 159 [.pointer (some ⟨d, 0, none⟩)] [P] (fun v Ps => v = .bool true ∧ Ps = [P]) := by
  refine Trip.of (m := 124) Tryz.func159 rfl rfl rfl ?_
  intro o Rs
  simp only [List.cons_append, List.nil_append, enumFrom]
  have b1 : t.rooms.length ≤ 60 := by have := g.rr.len; rwa [List.length_map] at this
  have b2 : t.protos.length ≤ 60 := by have := g.rp.len; rwa [List.length_map] at this
  have b3 : t.mobs.length ≤ 60 := by have := g.rm.len; rwa [List.length_map] at this
  refine go ?_
  refine ⟨?_, by simp⟩ <;> intros
  refine loop (fun k => k ≤ t.rooms.length) (fun k => [(0, .pointer (some ⟨d, 0, none⟩)), (15, .slice m.roA t.rooms.length m.roC), (16, .int .i64 (t.rooms.length : Int)), (17, .int .i64 (k : Int))]) (fun k => P :: Rs) (fun k => t.rooms.length - k) 0 (Nat.zero_le _) fun k h1 => ?_
  by_cases hk : k < t.rooms.length
  · obtain ⟨x, hx⟩ : ∃ x, t.rooms[k]? = some x := ⟨_, List.getElem?_eq_getElem hk⟩
    have hg := g.ro x (List.mem_of_getElem? hx)
    have hw := word_len hg.nm
    have F1 := Word_spec x.name (by omega)
    rw [hg.nm] at F1
    have F2 := in_yes x.kind 0 5 hg.kd.1 hg.kd.2
    have F3 := in_yes x.price 0 1073741824 hg.pr.1 hg.pr.2
    refine go ?_
    refine ⟨?_, by simp⟩ <;> intros
    rename_i b
    refine loop (σ := Nat) (fun j => j ≤ 6) (fun j => [(0, .pointer (some ⟨d, 0, none⟩)), (5, .bool true), (15, .slice m.roA t.rooms.length m.roC), (16, .int .i64 (t.rooms.length : Int)), (17, .int .i64 (k : Int)), (35, .agg #[.int .i64 x.e0, .int .i64 x.e1, .int .i64 x.e2, .int .i64 x.e3, .int .i64 x.e4, .int .i64 x.e5]), (36, .int .i64 (j : Int))]) (fun j => P :: Rs) (fun j => 6 - j) 0 (Nat.zero_le _) fun j hj => ?_
    by_cases hj2 : j < 6
    · obtain ⟨v, hv⟩ : ∃ v, x.exits[j]? = some v := ⟨_, List.getElem?_eq_getElem hj2⟩
      have he := (hg.ex v (List.mem_of_getElem? hv)).1
      have hv2 : ([.int .i64 x.e0, .int .i64 x.e1, .int .i64 x.e2, .int .i64 x.e3, .int .i64 x.e4, .int .i64 x.e5] : List Value)[j]? = some (.int .i64 v) := by
        have : ([.int .i64 x.e0, .int .i64 x.e1, .int .i64 x.e2, .int .i64 x.e3, .int .i64 x.e4, .int .i64 x.e5] : List Value) = x.exits.map (.int .i64) := rfl
        rw [this, List.getElem?_map, hv]; rfl
      have F4 := in_yes v 0 1000 he.1 he.2
      refine go ?_
      refine ⟨?_, by simp⟩ <;> intros
      exact rnd (j + 1) (by omega) (by omega)
    · refine go ?_
      refine ⟨?_, by simp⟩ <;> intros
      exact rnd (k + 1) hk (by omega)
  refine go ?_
  refine ⟨?_, by simp⟩ <;> intros
  refine loop (fun k => k ≤ t.protos.length) (fun k => [(0, .pointer (some ⟨d, 0, none⟩)), (51, .slice m.prA t.protos.length m.prC), (52, .int .i64 (t.protos.length : Int)), (53, .int .i64 (k : Int))]) (fun k => P :: Rs) (fun k => t.protos.length - k) 0 (Nat.zero_le _) fun k h1 => ?_
  by_cases hk : k < t.protos.length
  · obtain ⟨x, hx⟩ : ∃ x, t.protos[k]? = some x := ⟨_, List.getElem?_eq_getElem hk⟩
    have hg := g.po x (List.mem_of_getElem? hx)
    have hw := word_len hg.nm
    have F1 := Word_spec x.name (by omega)
    rw [hg.nm] at F1
    have F2 := in_yes x.slot 0 2 hg.sl.1 hg.sl.2
    have F3 := in_yes x.power 0 100 hg.pw.1 hg.pw.2
    have F4 := in_yes x.price 0 1073741824 hg.pr.1 hg.pr.2
    refine go ?_
    refine ⟨?_, by simp⟩ <;> intros
    exact rnd (k + 1) hk (by omega)
  refine go ?_
  refine ⟨?_, by simp⟩ <;> intros
  refine loop (fun k => k ≤ t.mobs.length) (fun k => [(0, .pointer (some ⟨d, 0, none⟩)), (83, .slice m.moA t.mobs.length m.moC), (84, .int .i64 (t.mobs.length : Int)), (85, .int .i64 (k : Int))]) (fun k => P :: Rs) (fun k => t.mobs.length - k) 0 (Nat.zero_le _) fun k h1 => ?_
  by_cases hk : k < t.mobs.length
  · obtain ⟨x, hx⟩ : ∃ x, t.mobs[k]? = some x := ⟨_, List.getElem?_eq_getElem hk⟩
    have hg := g.mo x (List.mem_of_getElem? hx)
    have hw := word_len hg.nm
    have F1 := Word_spec x.name (by omega)
    rw [hg.nm] at F1
    have F2 := id_yes x.home hg.hi
    have F3 := in_yes x.hp 1 10000 hg.hp.1 hg.hp.2
    have F4 := in_yes x.power 0 100 hg.pw.1 hg.pw.2
    have F5 := in_yes x.xp 0 10000 hg.xp.1 hg.xp.2
    have F6 := in_yes x.gold 0 1073741824 hg.go.1 hg.go.2
    refine go ?_
    refine ⟨?_, by simp⟩ <;> intros
    exact rnd (k + 1) hk (by omega)
  refine go ?_
  simp
theorem isNaN_no (a : Int) : Trip Tryz.prog 252 [.int .i64 a] [] (fun v Ps => v = .bool false ∧ Ps = []) := by
  refine Trip.of (m := 6) Tryz.func252 rfl rfl rfl ?_
  intro o Rs
  simp only [List.cons_append, List.nil_append, enumFrom]
  refine go ?_
  simp
theorem less_no (a b : Int) (h : b ≤ a) : Trip Tryz.prog 224 [.int .i64 a, .int .i64 b] [] (fun v Ps => v = .bool false ∧ Ps = []) := by
  refine Trip.of (m := 17) Tryz.func224 rfl rfl rfl ?_
  intro o Rs
  simp only [List.cons_append, List.nil_append, enumFrom]
  have F1 := isNaN_no a
  have F2 := isNaN_no b
  refine go ?_
  refine ⟨?_, by simp⟩ <;> intros
  rw [decide_eq_false (by omega)]
theorem sorted_yes (l : List Int) (A : Option Addr) (c : Nat) (hl : l.length ≤ 1000) (hu : ∀ (k : Nat) (x y : Int), l[k]? = some x → l[k + 1]? = some y → x ≤ y) (R : HProp) (hR : Reads R E64 A l) :
    Trip Tryz.prog 187 [.slice A l.length c] [R] (fun v Ps => v = .bool true ∧ Ps = [R]) := by
  refine Trip.of (m := 21) Tryz.func187 rfl rfl rfl ?_
  intro o Rs
  simp only [List.cons_append, List.nil_append, enumFrom]
  haveI : Plan 4 [14, 17, 19] [0, 1, 2, 3, 4, 5, 6, 7, 8, 9] := ⟨⟩
  refine go ?_
  refine ⟨?_, by simp⟩ <;> intros
  refine loop (σ := Int) (fun k => -1 ≤ k ∧ k < l.length) (fun k => [(0, .slice A l.length c), (3, .int .i64 k)]) (fun k => R :: Rs) (fun k => k.toNat) ((l.length : Int) - 1) ⟨by omega, by omega⟩ fun k ⟨h1, h2⟩ => ?_
  by_cases hk : 0 < k
  · obtain ⟨x, hx⟩ : ∃ x, l[k.toNat]? = some x := ⟨_, List.getElem?_eq_getElem (by omega)⟩
    obtain ⟨y, hy⟩ : ∃ y, l[(k - 1).toNat]? = some y := ⟨_, List.getElem?_eq_getElem (by omega)⟩
    have hle := hu (k - 1).toNat y x hy (by rw [show (k - 1).toNat + 1 = k.toNat from by omega]; exact hx)
    have F1 := less_no x y hle
    refine go ?_
    (repeat' (first | exact trivial | apply And.intro | intro _))
    all_goals first
      | (exfalso; omega)
      | exact rnd (k - 1) ⟨by omega, by omega⟩ (by omega)
  · refine go ?_
    simp
theorem notid (n : Int) (h : 1 ≤ n ∧ n ≤ 1000) : Trip Tryz.prog 189 [.int .i64 n] [] (fun v Ps => v = .bool false ∧ Ps = []) := by
  refine Trip.of (m := 6) Tryz.func189 rfl rfl rfl ?_
  intro o Rs
  simp only [List.cons_append, List.nil_append, enumFrom]
  have F1 := id_yes n h
  refine go ?_
  simp
end
end Go.Proofs.YtckkipangiapbaaGreat
