/-
  Words, lines and printed numbers, walked.
-/
import Derived.Test.YtlbhkndjmfcocaaDoorLnWalk
import Derived.Test.YtlbhkndjmfcocaaDoorShelf
namespace Go.Proofs.YtlbhkndjmfcocaaDoor
open Go.SL Go.RowKit
set_option linter.unusedVariables false
set_option linter.unusedSimpArgs false
set_option maxHeartbeats 4000000
theorem FormatInt_spec (n : Int) (h0 : -9223372036854775808 ≤ n) (h1 : n ≤ 9223372036854775807) : Trip Tryd.prog 24 [.int .i64 n, .int .i64 10] [gl] (fun u Ps => u = str (Lib.itoa n) ∧ Ps = [gl]) := by
  refine Trip.of_quiet fun w hw => ?_
  obtain ⟨f, hf, hh⟩ := hw
  refine (Tryd.strconv_FormatInt_10 n h0 h1 w (hf.2 w hh)).mono ?_
  rintro e w' ⟨rfl, k, os, rfl⟩
  exact ⟨rfl, Go.Lib.below_grow _ w (Nat.le_refl _) k os⟩
theorem Print_spec (n : Int) (h0 : -9223372036854775808 ≤ n) (h1 : n ≤ 9223372036854775807) : Trip Tryd.prog 18 [.int .i64 n] [gl] (fun u Ps => u = str (Lib.itoa n) ∧ Ps = [gl]) := by
  refine Trip.of (m := 5) Tryd.func18 rfl rfl rfl ?_
  intro o Rs
  simp only [List.cons_append, List.nil_append, enumFrom]
  have F1 := FormatInt_spec n h0 h1
  refine go ?_
  simp
theorem pred_words (w : World) : PredAt Tryd.prog 21 #[] encR bl w := fun W r _ => by
  unfold FnGives
  by_cases h1 : r = 32 <;> by_cases h2 : r = 9
  all_goals
    have z1 : (r : Int) = 32 ↔ r = 32 := by omega
    have z2 : (r : Int) = 9 ↔ r = 9 := by omega
    go_enter Tryd.func21, Tryd.ntmps21
    go_wp2
    all_goals first | (exfalso; omega) | (go_ret; exact ⟨by rw [show bl r = (decide ((r : Int) = 32) || decide ((r : Int) = 9)) from by rw [Bool.eq_iff_iff]; simp [bl, z1, z2]]; simp [z1, z2, h1, h2], 0, rfl⟩)
theorem FieldsFunc_spec (s : List UInt8) (hl : s.length ≤ 4294967296) : Trip Tryd.prog 20 [str s, .func (.func 21) #[] #[]] [] (fun u Ps => ∃ g, u = .slice (some ⟨g, 0, none⟩) (wordsM s).length (wordsM s).length ∧ Ps = [sl Enc.str 9 (some ⟨g, 0, none⟩) (wordsM s).length (wordsM s)]) := by
  constructor; intro o w Rs hw
  refine (Tryd.strings_FieldsFunc 21 #[] (enters_of Tryd.func21 (by kernel_rfl) rfl) bl ⟨s.toArray⟩ w (by rw [str_size]; exact hl) (pred_words w)).mono ?_
  rintro e w' ⟨g, rfl, hg, hown, hb⟩
  rw [goFields_words] at hown ⊢
  simp only [List.length_map, List.map_map] at hown ⊢
  exact ⟨_, _, rfl, ⟨g, rfl, rfl⟩, hw.own_strs hb hown⟩
theorem Words_spec (s : List UInt8) (hl : s.length ≤ 4294967296) : Trip Tryd.prog 10 [str s] [] (fun u Ps => ∃ g, u = .slice (some ⟨g, 0, none⟩) (wordsM s).length (wordsM s).length ∧ Ps = [sl Enc.str 9 (some ⟨g, 0, none⟩) (wordsM s).length (wordsM s)]) := by
  refine Trip.of (m := 5) Tryd.func10 rfl rfl rfl ?_
  intro o Rs
  simp only [List.cons_append, List.nil_append, enumFrom]
  have F1 := FieldsFunc_spec s hl
  refine go ?_
  refine ⟨fun g => ?_, by simp⟩
  exact ret1 ⟨g, rfl, rfl⟩
theorem Cut_spec (s : List UInt8) (n : Nat) (hl : s.length ≤ 9223372036854775807) : Trip Tryd.prog 6 [str s, .int .i64 (n : Int)] [] (fun v Ps => v = str (s.take n) ∧ Ps = []) := by
  refine Trip.of (m := 13) Tryd.func6 rfl rfl rfl ?_
  intro o Rs
  simp only [List.cons_append, List.nil_append, enumFrom]
  refine go ?_
  refine ⟨fun h1 => ?_, by simp⟩
  rw [List.take_of_length_le (by omega)]
theorem same_spec (a b : List (List UInt8)) (A B : Option Addr) (ca cb : Nat) (P Q : HProp) (hP : Reads P Enc.str A a) (hQ : Reads Q Enc.str B b) (hl : a.length ≤ 140737488355328) (hl2 : b.length ≤ 140737488355328) :
    Trip Tryd.prog 9 [.slice A a.length ca, .slice B b.length cb] [P, Q] (fun v Ps => v = .bool (a == b) ∧ Ps = [P, Q]) := by
  refine Trip.of (m := 26) Tryd.func9 rfl rfl rfl ?_
  intro o Rs
  simp only [List.cons_append, List.nil_append, enumFrom]
  by_cases hab : a.length = b.length
  · refine go ?_
    refine ⟨?_, by simp⟩ <;> intros
    refine loop (fun k => k ≤ a.length ∧ a.take k = b.take k) (fun k => [(0, .slice A a.length ca), (1, .slice B b.length cb), (5, .int .i64 (k : Int))]) (fun k => P :: Q :: Rs) (fun k => a.length - k) 0 ⟨Nat.zero_le _, rfl⟩ fun k ⟨h1, h2⟩ => ?_
    by_cases hk : k < a.length
    · obtain ⟨x, hx⟩ : ∃ x, a[k]? = some x := ⟨_, List.getElem?_eq_getElem hk⟩
      obtain ⟨y, hy⟩ : ∃ y, b[k]? = some y := ⟨_, List.getElem?_eq_getElem (by omega)⟩
      refine go ?_
      refine ⟨fun h3 h4 => ?_, fun h3 h4 => ?_, by simp⟩
      · have hne : a ≠ b := by rintro rfl; rw [hx] at hy; exact h4 (Option.some.inj hy)
        rw [beq_eq_false_iff_ne.2 hne]
      · exact rnd (k + 1) ⟨hk, by rw [List.take_add_one, List.take_add_one, hx, hy, h2, h4]⟩ (by omega)
    · rw [List.take_of_length_le (by omega), List.take_of_length_le (by omega)] at h2
      subst h2
      refine go ?_
      refine ⟨?_, by simp⟩ <;> intros
      rw [beq_self_eq_true]
  · have hne : a ≠ b := by rintro rfl; exact hab rfl
    refine go ?_
    refine ⟨?_, by simp⟩ <;> intros
    rw [beq_eq_false_iff_ne.2 hne]
def fromV : Option Nat → Int
  | some a => a
  | none => -1
theorem RefWords_spec (s : List UInt8) (hl : s.length ≤ 1000000) : Trip Tryd.prog 11 [str s] [] (fun u Ps => ∃ A c, u = .slice A (wordsM s).length c ∧ Ps = [sl Enc.str 9 A c (wordsM s)]) := by
  refine Trip.of (m := 49) Tryd.func11 rfl rfl rfl ?_
  intro o Rs
  simp only [List.cons_append, List.nil_append, enumFrom]
  refine go ?_
  refine ⟨?_, by simp⟩ <;> intros
  refine loop (σ := Nat × Option Nat × List (List UInt8) × Option Addr × Nat) (fun x => x.1 ≤ s.length + 1 ∧ x.2.2.1.length ≤ x.1 ∧ (x.1 ≤ s.length → x.2.2.1 ++ wgo (s.drop x.1) (begunAt s x.1 x.2.1) = wordsM s ∧ ∀ a, x.2.1 = some a → a < x.1) ∧ (x.1 = s.length + 1 → x.2.2.1 = wordsM s))
    (fun x => [(0, str s), (3, .slice x.2.2.2.1 x.2.2.1.length x.2.2.2.2), (4, .int .i64 (fromV x.2.1)), (5, .int .i64 (x.1 : Int))]) (fun x => sl Enc.str 9 x.2.2.2.1 x.2.2.2.2 x.2.2.1 :: Rs) (fun x => s.length + 1 - x.1) (0, none, [], none, 0) ⟨by omega, by simp, fun _ => ⟨rfl, fun a h => by cases h⟩, fun h => by simp at h⟩ ?_
  rintro ⟨i, st, acc, A, c⟩ ⟨h1, h2, h3, h4⟩
  simp only at h1 h2 h3 h4 ⊢
  by_cases hi : i ≤ s.length
  · obtain ⟨h3, h5⟩ := h3 hi
    refine C.seq ?_
    refine gor ?_
    refine ⟨?_, by simp⟩ <;> intros
    by_cases hil : i < s.length
    · obtain ⟨b, hb⟩ : ∃ b, s[i]? = some b := ⟨_, List.getElem?_eq_getElem hil⟩
      have hd : s.drop i = b :: s.drop (i + 1) := by rw [List.drop_eq_getElem_cons hil, (List.getElem?_eq_some_iff.1 hb).2]
      have hc1 : cut s (i, i + 1) = [b] := by simp only [cut, hd]; rw [show i + 1 - i = 1 from by omega]; rfl
      rw [hd, wgo] at h3
      by_cases hbl : blank b = true
      · rw [if_pos hbl] at h3
        have hb2 : b = 32 ∨ b = 9 := by simpa [blank] using hbl
        cases st with
        | none =>
          have h6 : acc ++ wgo (s.drop (i + 1)) (begunAt s (i + 1) none) = wordsM s := h3
          simp only [fromV]
          rcases hb2 with rfl | rfl
          · refine go ?_
            refine ⟨?_, by simp⟩ <;> intros
            exact rnd (i + 1, none, acc, A, c) ⟨by simp only; omega, by simp only; omega, fun _ => ⟨h6, fun a h => by cases h⟩, fun h => by simp only at h; omega⟩ (by simp only; omega)
          · refine go ?_
            refine ⟨?_, by simp⟩ <;> intros
            exact rnd (i + 1, none, acc, A, c) ⟨by simp only; omega, by simp only; omega, fun _ => ⟨h6, fun a h => by cases h⟩, fun h => by simp only at h; omega⟩ (by simp only; omega)
        | some a =>
          have ha := h5 a rfl
          have hne : cut s (a, i) ≠ [] := by intro h; have := congrArg List.length h; simp [cut] at this; omega
          have h6 : (acc ++ [cut s (a, i)]) ++ wgo (s.drop (i + 1)) (begunAt s (i + 1) none) = wordsM s := by
            rw [← h3]; simp [begunAt, hne]
          simp only [fromV]
          rcases hb2 with rfl | rfl
          · refine go ?_
            refine ⟨?_, by simp⟩ <;> intros
            rename_i A' c'
            exact rnd (i + 1, none, acc ++ [cut s (a, i)], A', c') ⟨by simp only; omega, by simp; omega, fun _ => ⟨h6, fun a h => by cases h⟩, fun h => by simp only at h; omega⟩ (by simp only; omega)
          · refine go ?_
            refine ⟨?_, by simp⟩ <;> intros
            rename_i A' c'
            exact rnd (i + 1, none, acc ++ [cut s (a, i)], A', c') ⟨by simp only; omega, by simp; omega, fun _ => ⟨h6, fun a h => by cases h⟩, fun h => by simp only at h; omega⟩ (by simp only; omega)
      · rw [if_neg hbl] at h3
        have n1 : ¬ (b.toNat : Int) = 32 := by intro h; apply hbl; rw [blank_bl]; simp [bl]; omega
        have n2 : ¬ (b.toNat : Int) = 9 := by intro h; apply hbl; rw [blank_bl]; simp [bl]; omega
        cases st with
        | none =>
          have h6 : acc ++ wgo (s.drop (i + 1)) (begunAt s (i + 1) (some i)) = wordsM s := by rw [← h3]; simp [begunAt, hc1]
          simp only [fromV]
          refine go ?_
          refine ⟨?_, by simp⟩ <;> intros
          exact rnd (i + 1, some i, acc, A, c) ⟨by simp only; omega, by simp only; omega, fun _ => ⟨h6, fun a h => by cases h; simp only; omega⟩, fun h => by simp only at h; omega⟩ (by simp only; omega)
        | some a =>
          have ha := h5 a rfl
          have h6 : acc ++ wgo (s.drop (i + 1)) (begunAt s (i + 1) (some a)) = wordsM s := by
            rw [← h3]; simp only [begunAt]; rw [cut_more s (show a ≤ i by omega) (show i ≤ i + 1 by omega), hc1]
          simp only [fromV]
          refine go ?_
          refine ⟨?_, by simp⟩ <;> intros
          exact rnd (i + 1, some a, acc, A, c) ⟨by simp only; omega, by simp only; omega, fun _ => ⟨h6, fun b h => by cases h; simp only; omega⟩, fun h => by simp only at h; omega⟩ (by simp only; omega)
    · have he : i = s.length := by omega
      subst he
      rw [List.drop_length] at h3
      cases st with
      | none =>
        have h6 : acc = wordsM s := by rw [← h3]; simp [begunAt, wgo]
        simp only [fromV]
        refine go ?_
        refine ⟨?_, by simp⟩ <;> intros
        exact rnd (s.length + 1, none, acc, A, c) ⟨by simp only; omega, by simp only; omega, fun h => by simp only at h; omega, fun _ => h6⟩ (by simp only; omega)
      | some a =>
        have ha := h5 a rfl
        have hne : cut s (a, s.length) ≠ [] := by intro h; have := congrArg List.length h; simp [cut] at this; omega
        have h6 : acc ++ [cut s (a, s.length)] = wordsM s := by rw [← h3]; simp [begunAt, wgo, hne]
        simp only [fromV]
        refine go ?_
        refine ⟨?_, by simp⟩ <;> intros
        rename_i A' c'
        exact rnd (s.length + 1, none, acc ++ [cut s (a, s.length)], A', c') ⟨by simp only; omega, by simp; omega, fun h => by simp only at h; omega, fun _ => h6⟩ (by simp only; omega)
  · have h6 := h4 (by omega)
    subst h6
    refine go ?_
    refine ⟨?_, by simp⟩ <;> intros
    exact ret1 ⟨A, c, rfl, rfl⟩
theorem RefLines_spec (s : List UInt8) (hl : s.length ≤ 1000000) : Trip Tryd.prog 13 [str s] [] (fun u Ps => ∃ A c, u = .slice A (linesM s).length c ∧ Ps = [sl Enc.str 9 A c (linesM s)]) := by
  refine Trip.of (m := 50) Tryd.func13 rfl rfl rfl ?_
  intro o Rs
  simp only [List.cons_append, List.nil_append, enumFrom]
  refine go ?_
  refine ⟨?_, by simp⟩ <;> intros
  refine loop (σ := Nat × Nat × List (List UInt8) × Option Addr × Nat) (fun x => x.1 ≤ s.length ∧ x.2.1 ≤ x.1 ∧ x.2.2.1.length ≤ x.1 ∧ x.2.2.1 ++ lgo (s.drop x.1) (cut s (x.2.1, x.1)) = linesM s)
    (fun x => [(0, str s), (3, .slice x.2.2.2.1 x.2.2.1.length x.2.2.2.2), (4, .int .i64 (x.2.1 : Int)), (5, .int .i64 (x.1 : Int))]) (fun x => sl Enc.str 9 x.2.2.2.1 x.2.2.2.2 x.2.2.1 :: Rs) (fun x => s.length - x.1) (0, 0, [], none, 0) ⟨by omega, by simp, by simp, by simp [cut, linesM]⟩ ?_
  rintro ⟨i, fr, acc, A, c⟩ ⟨h1, h2, h3, h4⟩
  simp only at h1 h2 h3 h4 ⊢
  by_cases hi : i < s.length
  · obtain ⟨b, hb⟩ : ∃ b, s[i]? = some b := ⟨_, List.getElem?_eq_getElem hi⟩
    have hd : s.drop i = b :: s.drop (i + 1) := by rw [List.drop_eq_getElem_cons hi, (List.getElem?_eq_some_iff.1 hb).2]
    have hc1 : cut s (i, i + 1) = [b] := by simp only [cut, hd]; rw [show i + 1 - i = 1 from by omega]; rfl
    rw [hd, lgo] at h4
    by_cases hb10 : b = 10
    · subst hb10
      rw [if_pos rfl] at h4
      have h6 : ∀ x, dropCR (cut s (fr, i)) = x → (acc ++ [x]) ++ lgo (s.drop (i + 1)) (cut s (i + 1, i + 1)) = linesM s := by
        rintro x rfl; rw [← h4]; simp [cut]
      by_cases hfi : fr < i
      · obtain ⟨e, he⟩ : ∃ e, s[i - 1]? = some e := ⟨_, List.getElem?_eq_getElem (by omega)⟩
        have he' : s[((i : Int) - 1).toNat]? = some e := by rw [← he]; congr 1; omega
        have hlast : (cut s (fr, i)).getLast? = some e := by
          rw [show i = (i - 1) + 1 from by omega, cut_more s (show fr ≤ i - 1 by omega) (Nat.le_succ _)]
          have : cut s (i - 1, i - 1 + 1) = [e] := by simp only [cut, show i - 1 + 1 - (i - 1) = 1 from by omega]; rw [List.drop_eq_getElem_cons (by omega : i - 1 < s.length), (List.getElem?_eq_some_iff.1 he).2]; rfl
          rw [this]; simp
        by_cases he13 : e = 13
        · subst he13
          have hdr : dropCR (cut s (fr, i)) = cut s (fr, i - 1) := by
            rw [dropCR, if_pos hlast]
            have h7 := cut_more s (show fr ≤ i - 1 by omega) (show i - 1 ≤ i by omega)
            have : cut s (i - 1, i) = [13] := by simp only [cut, show i - (i - 1) = 1 from by omega]; rw [List.drop_eq_getElem_cons (by omega : i - 1 < s.length), (List.getElem?_eq_some_iff.1 he).2]; rfl
            rw [h7, this]; simp
          have hi1 : ((i : Int) - 1).toNat = i - 1 := by omega
          refine go ?_
          refine ⟨?_, by simp⟩ <;> intros
          rename_i A' c'
          rw [hi1]
          exact rnd (i + 1, i + 1, acc ++ [cut s (fr, i - 1)], A', c') ⟨by simp only; omega, by simp, by simp; omega, h6 (cut s (fr, i - 1)) hdr⟩ (by simp only; omega)
        · have hdr : dropCR (cut s (fr, i)) = cut s (fr, i) := by rw [dropCR, if_neg (by rw [hlast]; simpa using he13)]
          have n1 : ¬ (e.toNat : Int) = 13 := by intro h; apply he13; apply UInt8.toNat_inj.1; show e.toNat = 13; omega
          refine go ?_
          refine ⟨?_, by simp⟩ <;> intros
          rename_i A' c'
          exact rnd (i + 1, i + 1, _, A', c') ⟨by simp only; omega, by simp, by simp; omega, h6 _ hdr⟩ (by simp only; omega)
      · have hfe : fr = i := by omega
        subst hfe
        have hdr : dropCR (cut s (fr, fr)) = cut s (fr, fr) := by simp [cut, dropCR]
        refine go ?_
        refine ⟨?_, by simp⟩ <;> intros
        rename_i A' c'
        exact rnd (fr + 1, fr + 1, _, A', c') ⟨by simp only; omega, by simp, by simp; omega, h6 _ hdr⟩ (by simp only; omega)
    · rw [if_neg hb10] at h4
      have n1 : ¬ (b.toNat : Int) = 10 := by intro h; apply hb10; apply UInt8.toNat_inj.1; show b.toNat = 10; omega
      have h6 : acc ++ lgo (s.drop (i + 1)) (cut s (fr, i + 1)) = linesM s := by rw [← h4, cut_more s h2 (Nat.le_succ i), hc1]
      refine go ?_
      refine ⟨?_, by simp⟩ <;> intros
      exact rnd (i + 1, fr, acc, A, c) ⟨by simp only; omega, by simp only; omega, by simp only; omega, h6⟩ (by simp only; omega)
  · have he : i = s.length := by omega
    subst he
    rw [List.drop_length, lgo] at h4
    by_cases hfi : fr < s.length
    · have hcs : cut s (fr, s.length) = s.drop fr := by simp only [cut]; rw [List.take_of_length_le (by simp)]
      have hne : s.drop fr ≠ [] := by intro h; have := congrArg List.length h; simp at this; omega
      rw [hcs, if_neg hne] at h4
      refine go ?_
      refine ⟨?_, by simp⟩ <;> intros
      rename_i A' c'
      rw [← h4]
      exact ret1 ⟨A', c', rfl, rfl⟩
    · have hcs : cut s (fr, s.length) = [] := by simp only [cut]; rw [show s.length - fr = 0 from by omega]; rfl
      rw [hcs, if_pos rfl, List.append_nil] at h4
      refine go ?_
      refine ⟨?_, by simp⟩ <;> intros
      rw [← h4]
      exact ret1 ⟨A, c, rfl, rfl⟩
end Go.Proofs.YtlbhkndjmfcocaaDoor
