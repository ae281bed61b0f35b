/-
  Walks and laws joined: LnWalk.
-/
import Derived.Test.YtflmbhkjhfmeoaaGreatQ02
import Derived.Test.YtflmbhkjhfmeoaaGreatQ05
import Derived.Test.YtflmbhkjhfmeoaaGreatQ01
set_option linter.unusedVariables false
set_option linter.unusedSimpArgs false
namespace Go.Proofs.YtflmbhkjhfmeoaaGreat
open Go.SL
set_option maxHeartbeats 4000000
theorem val_take (s : List UInt8) (k : Nat) (c : UInt8) (h : s[k]? = some c) : val (s.take (k + 1)) = 10 * val (s.take k) + (c.toNat - 48) := by
  rw [List.take_add_one, h]; exact val_snoc _ _
theorem all_take (s : List UInt8) (k : Nat) (c : UInt8) (h : s[k]? = some c) (h1 : (s.take k).all digit = true) (h2 : digit c = true) : (s.take (k + 1)).all digit = true := by
  rw [List.take_add_one, h, List.all_append, h1]; simpa using h2
theorem all_not (s : List UInt8) (p : UInt8 → Bool) (k : Nat) (c : UInt8) (h : s[k]? = some c) (h2 : p c = false) : s.all p = false := by
  rw [List.all_eq_false]; exact ⟨c, List.mem_of_getElem? h, by simp [h2]⟩
theorem shape_iff (s : List UInt8) : numShape s = true ↔ (1 ≤ s.length ∧ s.length ≤ 13 ∧ ¬ (s[0]? = some 48 ∧ 1 < s.length)) := by
  have h0 : s.isEmpty = false ↔ 1 ≤ s.length := by rw [List.isEmpty_eq_false_iff]; exact (List.length_pos_iff (l := s)).symm
  simp only [numShape, Bool.not_eq_true', Bool.or_eq_false_iff, Bool.and_eq_false_iff, decide_eq_false_iff_not, h0, beq_eq_false_iff_ne, ne_eq, Nat.not_lt, not_and]
  constructor
  · rintro ⟨⟨h1, h2⟩, h3⟩
    exact ⟨h1, h2, fun h4 => by rcases h3 with h3 | h3; exact absurd h4 h3; exact h3⟩
  · rintro ⟨h1, h2, h3⟩
    refine ⟨⟨h1, h2⟩, ?_⟩
    by_cases h4 : s[0]? = some 48
    · exact .inr (h3 h4)
    · exact .inl h4
theorem num_no (s : List UInt8) (h : numShape s = false) : numM s = (0, false) := by rw [numM, h]; rfl
theorem num_bad (s : List UInt8) (h : s.all digit = false) : numM s = (0, false) := by rw [numM, h]; simp
theorem num_big (s : List UInt8) (h : 1099511627776 < val s) : numM s = (0, false) := by rw [numM, decide_eq_false (show ¬ val s ≤ 1099511627776 by omega)]; simp
theorem num_yes (s : List UInt8) (h1 : numShape s = true) (h2 : s.all digit = true) (h3 : val s ≤ 1099511627776) : numM s = (((val s : Nat) : Int), true) := by rw [numM, h1, h2, decide_eq_true h3]; rfl
theorem shape_len {s : List UInt8} (h : numShape s = true) : 1 ≤ s.length ∧ s.length ≤ 13 := by
  simp only [numShape, Bool.not_eq_true', Bool.or_eq_false_iff, decide_eq_false_iff_not] at h
  have : s ≠ [] := by simpa using h.1.1
  have := List.length_pos_iff.2 this
  omega
theorem val_bound {s : List UInt8} (k : Nat) (hk : k ≤ 13) (h : (s.take k).all digit = true) : val (s.take k) < 10000000000000 := by
  have h1 := val_le _ h
  have h2 : (s.take k).length ≤ 13 := by rw [List.length_take]; omega
  exact Nat.lt_of_lt_of_le h1 (Nat.pow_le_pow_right (by decide) h2)
theorem Number_spec (s : List UInt8) : Trip Tryz.prog 147 [str s] [] (fun v Ps => v = .tuple #[.int .i64 (numM s).1, .bool (numM s).2] ∧ Ps = []) := by
  refine Trip.of (m := 50) Tryz.func147 rfl rfl rfl ?_
  intro o Rs
  simp only [List.cons_append, List.nil_append, enumFrom]
  cases hs0 : s with
  | nil =>
    refine go ?_
    refine ⟨?_, by simp⟩ <;> intros
    rfl
  | cons c0 r =>
    rw [← hs0]
    have hc0 : s[0]? = some c0 := by rw [hs0]; rfl
    have hne : (s == []) = false := by rw [hs0]; rfl
    have hc0' := c0.toNat_lt
    have hs1 : 1 ≤ s.length := by rw [hs0]; simp
    have h48 : (c0.toNat : Int) = 48 ↔ c0 = 48 := by rw [← UInt8.toNat_inj]; show (c0.toNat : Int) = 48 ↔ c0.toNat = 48; omega
    refine gor ?_
    refine ⟨?_, by simp⟩ <;> intros
    refine C.join (σ := Unit) (fun _ => numShape s = true) (fun _ => [(0, str s)]) (fun _ => Rs) ?_ ?_
    · refine go ?_
      refine ⟨fun h1 h2 h3 h4 => ?_, fun h1 h2 h3 h4 => ?_, fun h1 h2 h3 => ?_, fun h1 h2 => ?_, fun h1 => ?_, by simp⟩
      · rw [num_no s (by rw [← Bool.not_eq_true, shape_iff, hc0, h48.1 h3]; simp; omega)]
      · exact jn () ((shape_iff s).2 ⟨hs1, by omega, by omega⟩)
      · exact jn () ((shape_iff s).2 ⟨hs1, by omega, fun h => h3 (h48.2 (by have := h.1; rw [hc0] at this; exact Option.some.inj this))⟩)
      · rw [num_no s (by rw [← Bool.not_eq_true, shape_iff]; omega)]
      · exact absurd h1 (by rw [hs0]; simp)
    rintro ⟨⟩ hsh
    have hl := shape_len hsh
    refine go ?_
    refine ⟨?_, by simp⟩ <;> intros
    refine loop (fun k => k ≤ s.length ∧ (s.take k).all digit = true) (fun k => [(0, str s), (4, .int .i64 (val (s.take k) : Int)), (24, .int .i64 (s.length : Int)), (25, .int .i64 (k : Int))]) (fun _ => Rs) (fun k => s.length - k) 0 ⟨Nat.zero_le _, rfl⟩ fun k ⟨h1, h2⟩ => ?_
    have hv := val_bound k (by omega) h2
    by_cases hk : k < s.length
    · obtain ⟨c, hc⟩ : ∃ c, s[k]? = some c := ⟨_, List.getElem?_eq_getElem hk⟩
      have hcl := c.toNat_lt
      refine go ?_
      refine ⟨fun h3 h4 h5 => ?_, fun h3 h4 h5 => ?_, fun h3 h4 => ?_, by simp⟩
      · rw [num_bad s (all_not s digit k c hc (by simp [digit]; omega))]
      · refine rnd (k + 1) ⟨hk, all_take s k c hc h2 (by simp [digit]; omega)⟩ (by omega) ⟨rfl, ?_, rfl, rfl, trivial⟩
        rw [val_take s k c hc]
        exact congrArg (fun z => some (Value.int .i64 z)) (by omega)
      · rw [num_bad s (all_not s digit k c hc (by simp [digit]; omega))]
    · have ht : s.take k = s := List.take_of_length_le (by omega)
      rw [ht] at h2 ⊢
      refine go ?_
      refine ⟨fun h3 h4 => ?_, fun h3 h4 => ?_, by simp⟩
      · rw [num_big s (by omega)]
      · rw [num_yes s hsh h2 (by omega)]
theorem RefNumber_spec (s : List UInt8) : Trip Tryz.prog 113 [str s] [] (fun v Ps => v = .tuple #[.int .i64 (numM s).1, .bool (numM s).2] ∧ Ps = []) := by
  refine Trip.of (m := 50) Tryz.func113 rfl rfl rfl ?_
  intro o Rs
  simp only [List.cons_append, List.nil_append, enumFrom]
  cases hs0 : s with
  | nil =>
    refine go ?_
    refine ⟨?_, by simp⟩ <;> intros
    rfl
  | cons c0 r =>
    rw [← hs0]
    have hc0 : s[0]? = some c0 := by rw [hs0]; rfl
    have hne : (s == []) = false := by rw [hs0]; rfl
    have hc0' := c0.toNat_lt
    have hs1 : 1 ≤ s.length := by rw [hs0]; simp
    have h48 : (c0.toNat : Int) = 48 ↔ c0 = 48 := by rw [← UInt8.toNat_inj]; show (c0.toNat : Int) = 48 ↔ c0.toNat = 48; omega
    refine gor ?_
    refine ⟨?_, by simp⟩ <;> intros
    refine C.join (σ := Unit) (fun _ => numShape s = true) (fun _ => [(0, str s)]) (fun _ => Rs) ?_ ?_
    · refine go ?_
      refine ⟨fun h1 h2 h3 h4 => ?_, fun h1 h2 h3 h4 => ?_, fun h1 h2 h3 => ?_, fun h1 h2 => ?_, fun h1 => ?_, by simp⟩
      · rw [num_no s (by rw [← Bool.not_eq_true, shape_iff, hc0, h48.1 h3]; simp; omega)]
      · exact jn () ((shape_iff s).2 ⟨hs1, by omega, by omega⟩)
      · exact jn () ((shape_iff s).2 ⟨hs1, by omega, fun h => h3 (h48.2 (by have := h.1; rw [hc0] at this; exact Option.some.inj this))⟩)
      · rw [num_no s (by rw [← Bool.not_eq_true, shape_iff]; omega)]
      · exact absurd h1 (by rw [hs0]; simp)
    rintro ⟨⟩ hsh
    have hl := shape_len hsh
    refine go ?_
    refine ⟨?_, by simp⟩ <;> intros
    refine loop (fun k => k ≤ s.length ∧ (s.take k).all digit = true) (fun k => [(0, str s), (4, .int .i64 (val (s.take k) : Int)), (5, .int .i64 (k : Int))]) (fun _ => Rs) (fun k => s.length - k) 0 ⟨Nat.zero_le _, rfl⟩ fun k ⟨h1, h2⟩ => ?_
    have hv := val_bound k (by omega) h2
    by_cases hk : k < s.length
    · obtain ⟨c, hc⟩ : ∃ c, s[k]? = some c := ⟨_, List.getElem?_eq_getElem hk⟩
      have hcl := c.toNat_lt
      refine go ?_
      refine ⟨fun h3 h4 h5 => ?_, fun h3 h4 h5 => ?_, fun h3 h4 => ?_, by simp⟩
      · rw [num_bad s (all_not s digit k c hc (by simp [digit]; omega))]
      · refine rnd (k + 1) ⟨hk, all_take s k c hc h2 (by simp [digit]; omega)⟩ (by omega) ⟨rfl, ?_, rfl, trivial⟩
        rw [val_take s k c hc]
        exact congrArg (fun z => some (Value.int .i64 z)) (by omega)
      · rw [num_bad s (all_not s digit k c hc (by simp [digit]; omega))]
    · have ht : s.take k = s := List.take_of_length_le (by omega)
      rw [ht] at h2 ⊢
      refine go ?_
      refine ⟨fun h3 h4 => ?_, fun h3 h4 => ?_, by simp⟩
      · rw [num_big s (by omega)]
      · rw [num_yes s hsh h2 (by omega)]
theorem word_bad (s : List UInt8) (k : Nat) (c : UInt8) (h : s[k]? = some c) (h2 : letter c = false) : wordB s = false := by rw [wordB, all_not s letter k c h h2]; rfl
theorem Word_spec (s : List UInt8) (hl : s.length ≤ 140737488355328) : Trip Tryz.prog 255 [str s] [] (fun v Ps => v = .bool (wordB s) ∧ Ps = []) := by
  refine Trip.of (m := 27) Tryz.func255 rfl rfl rfl ?_
  intro o Rs
  simp only [List.cons_append, List.nil_append, enumFrom]
  refine go ?_
  refine ⟨?_, by simp⟩ <;> intros
  refine loop (fun k => k ≤ s.length ∧ (s.take k).all letter = true) (fun k => [(0, str s), (5, .int .i64 (s.length : Int)), (6, .int .i64 (k : Int))]) (fun _ => Rs) (fun k => s.length - k) 0 ⟨Nat.zero_le _, rfl⟩ fun k ⟨h1, h2⟩ => ?_
  by_cases hk : k < s.length
  · obtain ⟨c, hc⟩ : ∃ c, s[k]? = some c := ⟨_, List.getElem?_eq_getElem hk⟩
    have hcl := c.toNat_lt
    refine go ?_
    refine ⟨fun h3 h4 h5 => ?_, fun h3 h4 h5 => ?_, fun h3 h4 => ?_, by simp⟩
    · rw [word_bad s k c hc (by simp [letter]; omega)]
    · exact rnd (k + 1) ⟨hk, by rw [List.take_add_one, hc, List.all_append, h2]; simp [letter]; omega⟩ (by omega)
    · rw [word_bad s k c hc (by simp [letter]; omega)]
  · have ht : s.take k = s := List.take_of_length_le (by omega)
    rw [ht] at h2
    refine go ?_
    refine ⟨fun h3 h4 => ?_, fun h3 h4 => ?_, by simp⟩
    all_goals simp only [wordB, h2, Value.bool.injEq, Bool.true_and]
    · rw [Bool.eq_iff_iff]; simp only [Bool.and_eq_true, decide_eq_true_eq]; (have hp : s = [] ∨ 1 ≤ s.length := by cases s <;> simp); (rcases hp with rfl | hp <;> simp at * <;> (first | done | omega | simp_all | (intros; simp_all)))
    · rw [Bool.eq_iff_iff]; simp only [Bool.and_eq_true, decide_eq_true_eq]; (have hp : s = [] ∨ 1 ≤ s.length := by cases s <;> simp); (rcases hp with rfl | hp <;> simp at * <;> (first | done | omega | simp_all | (intros; simp_all)))
theorem RefWord_spec (s : List UInt8) (hl : s.length ≤ 140737488355328) : Trip Tryz.prog 152 [str s] [] (fun v Ps => v = .bool (wordB s) ∧ Ps = []) := by
  refine Trip.of (m := 28) Tryz.func152 rfl rfl rfl ?_
  intro o Rs
  simp only [List.cons_append, List.nil_append, enumFrom]
  refine go ?_
  refine ⟨?_, by simp⟩ <;> intros
  refine loop (fun k => k ≤ s.length ∧ (s.take k).all letter = true) (fun k => [(0, str s), (3, .int .i64 (k : Int))]) (fun _ => Rs) (fun k => s.length - k) 0 ⟨Nat.zero_le _, rfl⟩ fun k ⟨h1, h2⟩ => ?_
  by_cases hk : k < s.length
  · obtain ⟨c, hc⟩ : ∃ c, s[k]? = some c := ⟨_, List.getElem?_eq_getElem hk⟩
    have hcl := c.toNat_lt
    refine go ?_
    refine ⟨fun h3 h4 h5 => ?_, fun h3 h4 h5 => ?_, fun h3 h4 => ?_, by simp⟩
    · rw [word_bad s k c hc (by simp [letter]; omega)]
    · exact rnd (k + 1) ⟨hk, by rw [List.take_add_one, hc, List.all_append, h2]; simp [letter]; omega⟩ (by omega)
    · rw [word_bad s k c hc (by simp [letter]; omega)]
  · have ht : s.take k = s := List.take_of_length_le (by omega)
    rw [ht] at h2
    refine go ?_
    refine ⟨fun h3 h4 => ?_, fun h3 h4 => ?_, by simp⟩
    all_goals simp only [wordB, h2, Value.bool.injEq, Bool.true_and]
    · rw [Bool.eq_iff_iff]; simp only [Bool.and_eq_true, decide_eq_true_eq]; (have hp : s = [] ∨ 1 ≤ s.length := by cases s <;> simp); (rcases hp with rfl | hp <;> simp at * <;> (first | done | omega | simp_all | (intros; simp_all)))
    · rw [Bool.eq_iff_iff]; simp only [Bool.and_eq_true, decide_eq_true_eq]; (have hp : s = [] ∨ 1 ≤ s.length := by cases s <;> simp); (rcases hp with rfl | hp <;> simp at * <;> (first | done | omega | simp_all | (intros; simp_all)))
theorem RefLower_spec (s : List UInt8) (hl : s.length ≤ 140737488355328) : Trip Tryz.prog 214 [str s] [] (fun v Ps => v = str (lowerM s) ∧ Ps = []) := by
  refine Trip.of (m := 33) Tryz.func214 rfl rfl rfl ?_
  intro o Rs
  simp only [List.cons_append, List.nil_append, enumFrom]
  refine go ?_
  refine ⟨fun A c => ?_, by simp⟩
  refine loop (fun k => k ≤ s.length) (fun k => [(3, .slice A s.length c), (4, .int .i64 (k : Int))]) (fun k => sl Enc.u8 5 A c (mix (lowerM s) s k) :: Rs) (fun k => s.length - k) 0 (Nat.zero_le _) (fun k h1 => ?_) (by (repeat (first | exact trivial | refine And.intro rfl ?_ | fail))) (by rw [mix_zero]; (exact ent_))
  have hml := mix_len (lower_len s) k
  by_cases hk : k < s.length
  · obtain ⟨c, hc⟩ : ∃ c, s[k]? = some c := ⟨_, List.getElem?_eq_getElem hk⟩
    have hcl := c.toNat_lt
    have hg : (mix (lowerM s) s k)[k]? = some c := by rw [mix_get (lower_len s) hk, hc]
    have hl1 := lower_get s k c hc
    refine go ?_
    refine ⟨fun h3 h4 h5 => ?_, fun h3 h4 h5 => ?_, fun h3 h4 => ?_, by simp⟩
    · rw [lowC_big (c := c) (by omega) (by omega) (by omega), mix_set (lower_len s) hl1]
      exact rnd (k + 1) (show k + 1 ≤ s.length from hk) (by omega)
    · rw [lowC_small (c := c) (by omega)] at hl1
      rw [mix_same (lower_len s) hl1 hc]
      exact rnd (k + 1) (show k + 1 ≤ s.length from hk) (by omega)
    · rw [lowC_small (c := c) (by omega)] at hl1
      rw [mix_same (lower_len s) hl1 hc]
      exact rnd (k + 1) (show k + 1 ≤ s.length from hk) (by omega)
  · have hm := mix_all (lower_len s) (show s.length ≤ k by omega)
    rw [hm] at hml ⊢
    refine go ?_
    simp
end Go.Proofs.YtflmbhkjhfmeoaaGreat
