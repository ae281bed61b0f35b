/-
  Walks and laws joined: LnRef.
-/
import Derived.Test.YtflmbhkjhfmeoaaGreatQ06
import Derived.Lib.ItoaNum
set_option linter.unusedVariables false
set_option linter.unusedSimpArgs false
namespace Go.Proofs.YtflmbhkjhfmeoaaGreat
open Go.SL Go.RowKit
set_option maxHeartbeats 4000000
def fromV : Option Nat → Int
  | some a => a
  | none => -1
theorem RefWords_spec (s : List UInt8) (hl : s.length ≤ 1000000) : Trip Tryz.prog 155 [str s] [] (fun u Ps => ∃ A c, u = .slice A (wordsM s).length c ∧ Ps = [sl Enc.str 9 A c (wordsM s)]) := by
  refine Trip.of (m := 49) Tryz.func155 rfl rfl rfl ?_
  intro o Rs
  simp only [List.cons_append, List.nil_append, enumFrom]
  refine go ?_
  refine ⟨?_, by simp⟩ <;> intros
  refine loop (σ := Nat × Option Nat × List (List UInt8) × Option Addr × Nat) (fun x => x.1 ≤ s.length + 1 ∧ x.2.2.1.length ≤ x.1 ∧ (x.1 ≤ s.length → x.2.2.1 ++ wgo (s.drop x.1) (begunAt s x.1 x.2.1) = wordsM s ∧ ∀ a, x.2.1 = some a → a < x.1) ∧ (x.1 = s.length + 1 → x.2.2.1 = wordsM s))
    (fun x => [(0, str s), (3, .slice x.2.2.2.1 x.2.2.1.length x.2.2.2.2), (4, .int .i64 (fromV x.2.1)), (5, .int .i64 (x.1 : Int))]) (fun x => sl Enc.str 9 x.2.2.2.1 x.2.2.2.2 x.2.2.1 :: Rs) (fun x => s.length + 1 - x.1) (0, none, [], none, 0) ⟨by omega, by simp, fun _ => ⟨rfl, fun a h => by cases h⟩, fun h => by simp at h⟩ ?_
  rintro ⟨i, st, acc, A, c⟩ ⟨h1, h2, h3, h4⟩
  simp only at h1 h2 h3 h4 ⊢
  by_cases hi : i ≤ s.length
  · obtain ⟨h3, h5⟩ := h3 hi
    refine C.seq ?_
    refine gor ?_
    refine ⟨?_, by simp⟩ <;> intros
    by_cases hil : i < s.length
    · obtain ⟨b, hb⟩ : ∃ b, s[i]? = some b := ⟨_, List.getElem?_eq_getElem hil⟩
      have hd : s.drop i = b :: s.drop (i + 1) := by rw [List.drop_eq_getElem_cons hil, (List.getElem?_eq_some_iff.1 hb).2]
      have hc1 : cut s (i, i + 1) = [b] := by simp only [cut, hd]; rw [show i + 1 - i = 1 from by omega]; rfl
      rw [hd, wgo] at h3
      by_cases hbl : blank b = true
      · rw [if_pos hbl] at h3
        have hb2 : b = 32 ∨ b = 9 := by simpa [blank] using hbl
        cases st with
        | none =>
          have h6 : acc ++ wgo (s.drop (i + 1)) (begunAt s (i + 1) none) = wordsM s := h3
          simp only [fromV]
          rcases hb2 with rfl | rfl
          · refine go ?_
            refine ⟨?_, by simp⟩ <;> intros
            exact rnd (i + 1, none, acc, A, c) ⟨by simp only; omega, by simp only; omega, fun _ => ⟨h6, fun a h => by cases h⟩, fun h => by simp only at h; omega⟩ (by simp only; omega)
          · refine go ?_
            refine ⟨?_, by simp⟩ <;> intros
            exact rnd (i + 1, none, acc, A, c) ⟨by simp only; omega, by simp only; omega, fun _ => ⟨h6, fun a h => by cases h⟩, fun h => by simp only at h; omega⟩ (by simp only; omega)
        | some a =>
          have ha := h5 a rfl
          have hne : cut s (a, i) ≠ [] := by intro h; have := congrArg List.length h; simp [cut] at this; omega
          have h6 : (acc ++ [cut s (a, i)]) ++ wgo (s.drop (i + 1)) (begunAt s (i + 1) none) = wordsM s := by
            rw [← h3]; simp [begunAt, hne]
          simp only [fromV]
          rcases hb2 with rfl | rfl
          · refine go ?_
            refine ⟨?_, by simp⟩ <;> intros
            rename_i A' c'
            exact rnd (i + 1, none, acc ++ [cut s (a, i)], A', c') ⟨by simp only; omega, by simp; omega, fun _ => ⟨h6, fun a h => by cases h⟩, fun h => by simp only at h; omega⟩ (by simp only; omega)
          · refine go ?_
            refine ⟨?_, by simp⟩ <;> intros
            rename_i A' c'
            exact rnd (i + 1, none, acc ++ [cut s (a, i)], A', c') ⟨by simp only; omega, by simp; omega, fun _ => ⟨h6, fun a h => by cases h⟩, fun h => by simp only at h; omega⟩ (by simp only; omega)
      · rw [if_neg hbl] at h3
        have n1 : ¬ (b.toNat : Int) = 32 := by intro h; apply hbl; rw [blank_bl]; simp [bl]; omega
        have n2 : ¬ (b.toNat : Int) = 9 := by intro h; apply hbl; rw [blank_bl]; simp [bl]; omega
        cases st with
        | none =>
          have h6 : acc ++ wgo (s.drop (i + 1)) (begunAt s (i + 1) (some i)) = wordsM s := by rw [← h3]; simp [begunAt, hc1]
          simp only [fromV]
          refine go ?_
          refine ⟨?_, by simp⟩ <;> intros
          exact rnd (i + 1, some i, acc, A, c) ⟨by simp only; omega, by simp only; omega, fun _ => ⟨h6, fun a h => by cases h; simp only; omega⟩, fun h => by simp only at h; omega⟩ (by simp only; omega)
        | some a =>
          have ha := h5 a rfl
          have h6 : acc ++ wgo (s.drop (i + 1)) (begunAt s (i + 1) (some a)) = wordsM s := by
            rw [← h3]; simp only [begunAt]; rw [cut_more s (show a ≤ i by omega) (show i ≤ i + 1 by omega), hc1]
          simp only [fromV]
          refine go ?_
          refine ⟨?_, by simp⟩ <;> intros
          exact rnd (i + 1, some a, acc, A, c) ⟨by simp only; omega, by simp only; omega, fun _ => ⟨h6, fun b h => by cases h; simp only; omega⟩, fun h => by simp only at h; omega⟩ (by simp only; omega)
    · have he : i = s.length := by omega
      subst he
      rw [List.drop_length] at h3
      cases st with
      | none =>
        have h6 : acc = wordsM s := by rw [← h3]; simp [begunAt, wgo]
        simp only [fromV]
        refine go ?_
        refine ⟨?_, by simp⟩ <;> intros
        exact rnd (s.length + 1, none, acc, A, c) ⟨by simp only; omega, by simp only; omega, fun h => by simp only at h; omega, fun _ => h6⟩ (by simp only; omega)
      | some a =>
        have ha := h5 a rfl
        have hne : cut s (a, s.length) ≠ [] := by intro h; have := congrArg List.length h; simp [cut] at this; omega
        have h6 : acc ++ [cut s (a, s.length)] = wordsM s := by rw [← h3]; simp [begunAt, wgo, hne]
        simp only [fromV]
        refine go ?_
        refine ⟨?_, by simp⟩ <;> intros
        rename_i A' c'
        exact rnd (s.length + 1, none, acc ++ [cut s (a, s.length)], A', c') ⟨by simp only; omega, by simp; omega, fun h => by simp only at h; omega, fun _ => h6⟩ (by simp only; omega)
  · have h6 := h4 (by omega)
    subst h6
    refine go ?_
    refine ⟨?_, by simp⟩ <;> intros
    exact ret1 ⟨A, c, rfl, rfl⟩
theorem RefPrint_spec (n : Int) (h0 : -9223372036854775808 ≤ n) (h1 : n ≤ 9223372036854775807) : Trip Tryz.prog 267 [.int .i64 n] [] (fun u Ps => u = str (Lib.itoa n) ∧ Ps = []) := by
  refine Trip.of (m := 31) Tryz.func267 rfl rfl rfl ?_
  intro o Rs
  simp only [List.cons_append, List.nil_append, enumFrom]
  by_cases hn0 : n = 0
  · subst hn0
    refine go ?_
    refine ⟨?_, by simp⟩ <;> intros
    rw [Lib.itoa, if_neg (by decide), show (0 : Int).toNat = 0 from rfl, decDigits_one (by decide)]; rfl
  have hdg : Lib.decDigits n.natAbs = dg n.natAbs := by rw [dg, if_neg (by omega)]
  have hlen : (dg n.natAbs).length ≤ 19 := by rw [← hdg]; exact decDigits_len 19 _ (by decide) (by omega)
  rcases (by omega : n < 0 ∨ 0 ≤ n) with hs | hs
  · refine go ?_
    refine ⟨?_, by simp⟩ <;> intros
    refine loop (σ := Nat × List UInt8) (fun x => x.1 ≤ n.natAbs ∧ dg x.1 ++ x.2 = dg n.natAbs) (fun x => [(0, .int .i64 n), (3, str x.2), (4, .int .i64 (-(x.1 : Int)))]) (fun _ => Rs) (fun x => x.1) (n.natAbs, []) ⟨by simp, by simp⟩ ?_ ⟨rfl, rfl, ?_, trivial⟩
    · rintro ⟨u, acc⟩ ⟨h2, h3⟩
      simp only at h2 h3 ⊢
      have hl := congrArg List.length h3
      rw [List.length_append] at hl
      by_cases hu : u = 0
      · subst hu
        rw [show dg 0 = [] from rfl, List.nil_append] at h3
        refine go ?_
        refine ⟨?_, by simp⟩ <;> intros
        rw [h3, ← hdg, Lib.itoa, if_pos hs]; rfl
      · rw [dg_step hu, List.append_assoc] at h3
        refine go ?_
        refine ⟨?_, ?_, by simp⟩ <;> intros
        · exact rnd (u / 10, UInt8.ofNat (48 + u % 10) :: acc) ⟨by simp only; omega, by simpa using h3⟩ (by simp only; omega) ⟨rfl, congrArg (fun z => some (str (UInt8.ofNat z :: acc))) (by omega), congrArg (fun z => some (Value.int .i64 z)) (by omega), trivial⟩
        · exact rnd (u / 10, UInt8.ofNat (48 + u % 10) :: acc) ⟨by simp only; omega, by simpa using h3⟩ (by simp only; omega) ⟨rfl, congrArg (fun z => some (str (UInt8.ofNat z :: acc))) (by omega), congrArg (fun z => some (Value.int .i64 z)) (by omega), trivial⟩
    · exact congrArg (fun z => some (Value.int .i64 z)) (by omega)
  · refine go ?_
    refine ⟨?_, by simp⟩ <;> intros
    refine loop (σ := Nat × List UInt8) (fun x => x.1 ≤ n.natAbs ∧ dg x.1 ++ x.2 = dg n.natAbs) (fun x => [(0, .int .i64 n), (3, str x.2), (4, .int .i64 (x.1 : Int))]) (fun _ => Rs) (fun x => x.1) (n.natAbs, []) ⟨by simp, by simp⟩ ?_ ⟨rfl, rfl, ?_, trivial⟩
    · rintro ⟨u, acc⟩ ⟨h2, h3⟩
      simp only at h2 h3 ⊢
      have hl := congrArg List.length h3
      rw [List.length_append] at hl
      by_cases hu : u = 0
      · subst hu
        rw [show dg 0 = [] from rfl, List.nil_append] at h3
        refine go ?_
        refine ⟨?_, by simp⟩ <;> intros
        rw [h3, ← hdg, Lib.itoa, if_neg (by omega), show n.toNat = n.natAbs from by omega]
      · rw [dg_step hu, List.append_assoc] at h3
        refine go ?_
        refine ⟨?_, by simp⟩ <;> intros
        exact rnd (u / 10, UInt8.ofNat (48 + u % 10) :: acc) ⟨by simp only; omega, by simpa using h3⟩ (by simp only; omega) ⟨rfl, congrArg (fun z => some (str (UInt8.ofNat z :: acc))) (by omega), congrArg (fun z => some (Value.int .i64 z)) (by omega), trivial⟩
    · exact congrArg (fun z => some (Value.int .i64 z)) (by omega)
end Go.Proofs.YtflmbhkjhfmeoaaGreat
