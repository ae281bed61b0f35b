/-
  The printed number of the document; the two laws of the lines.
-/
import Derived.Test.YtlbhkndjmfcocaaDoorLnMore
namespace Go.Proofs.YtlbhkndjmfcocaaDoor
open Go.SL Go.RowKit
set_option linter.unusedVariables false
set_option linter.unusedSimpArgs false
set_option maxHeartbeats 4000000
theorem RefPrint_spec (n : Int) (h0 : -9223372036854775808 ≤ n) (h1 : n ≤ 9223372036854775807) : Trip Tryd.prog 19 [.int .i64 n] [] (fun u Ps => u = str (Lib.itoa n) ∧ Ps = []) := by
  refine Trip.of (m := 31) Tryd.func19 rfl rfl rfl ?_
  intro o Rs
  simp only [List.cons_append, List.nil_append, enumFrom]
  by_cases hn0 : n = 0
  · subst hn0
    refine go ?_
    refine ⟨?_, by simp⟩ <;> intros
    rw [Lib.itoa, if_neg (by decide), show (0 : Int).toNat = 0 from rfl, decDigits_one (by decide)]; rfl
  have hdg : Lib.decDigits n.natAbs = dg n.natAbs := by rw [dg, if_neg (by omega)]
  have hlen : (dg n.natAbs).length ≤ 19 := by rw [← hdg]; exact decDigits_len 19 _ (by decide) (by omega)
  rcases (by omega : n < 0 ∨ 0 ≤ n) with hs | hs
  · refine go ?_
    refine ⟨?_, by simp⟩ <;> intros
    refine loop (σ := Nat × List UInt8) (fun x => x.1 ≤ n.natAbs ∧ dg x.1 ++ x.2 = dg n.natAbs) (fun x => [(0, .int .i64 n), (3, str x.2), (4, .int .i64 (-(x.1 : Int)))]) (fun _ => Rs) (fun x => x.1) (n.natAbs, []) ⟨by simp, by simp⟩ ?_ ⟨rfl, rfl, ?_, trivial⟩
    · rintro ⟨u, acc⟩ ⟨h2, h3⟩
      simp only at h2 h3 ⊢
      have hl := congrArg List.length h3
      rw [List.length_append] at hl
      by_cases hu : u = 0
      · subst hu
        rw [show dg 0 = [] from rfl, List.nil_append] at h3
        refine go ?_
        refine ⟨?_, by simp⟩ <;> intros
        rw [h3, ← hdg, Lib.itoa, if_pos hs]; rfl
      · rw [dg_step hu, List.append_assoc] at h3
        refine go ?_
        refine ⟨?_, ?_, by simp⟩ <;> intros
        · exact rnd (u / 10, UInt8.ofNat (48 + u % 10) :: acc) ⟨by simp only; omega, by simpa using h3⟩ (by simp only; omega) ⟨rfl, congrArg (fun z => some (str (UInt8.ofNat z :: acc))) (by omega), congrArg (fun z => some (Value.int .i64 z)) (by omega), trivial⟩
        · exact rnd (u / 10, UInt8.ofNat (48 + u % 10) :: acc) ⟨by simp only; omega, by simpa using h3⟩ (by simp only; omega) ⟨rfl, congrArg (fun z => some (str (UInt8.ofNat z :: acc))) (by omega), congrArg (fun z => some (Value.int .i64 z)) (by omega), trivial⟩
    · exact congrArg (fun z => some (Value.int .i64 z)) (by omega)
  · refine go ?_
    refine ⟨?_, by simp⟩ <;> intros
    refine loop (σ := Nat × List UInt8) (fun x => x.1 ≤ n.natAbs ∧ dg x.1 ++ x.2 = dg n.natAbs) (fun x => [(0, .int .i64 n), (3, str x.2), (4, .int .i64 (x.1 : Int))]) (fun _ => Rs) (fun x => x.1) (n.natAbs, []) ⟨by simp, by simp⟩ ?_ ⟨rfl, rfl, ?_, trivial⟩
    · rintro ⟨u, acc⟩ ⟨h2, h3⟩
      simp only at h2 h3 ⊢
      have hl := congrArg List.length h3
      rw [List.length_append] at hl
      by_cases hu : u = 0
      · subst hu
        rw [show dg 0 = [] from rfl, List.nil_append] at h3
        refine go ?_
        refine ⟨?_, by simp⟩ <;> intros
        rw [h3, ← hdg, Lib.itoa, if_neg (by omega), show n.toNat = n.natAbs from by omega]
      · rw [dg_step hu, List.append_assoc] at h3
        refine go ?_
        refine ⟨?_, by simp⟩ <;> intros
        exact rnd (u / 10, UInt8.ofNat (48 + u % 10) :: acc) ⟨by simp only; omega, by simpa using h3⟩ (by simp only; omega) ⟨rfl, congrArg (fun z => some (str (UInt8.ofNat z :: acc))) (by omega), congrArg (fun z => some (Value.int .i64 z)) (by omega), trivial⟩
    · exact congrArg (fun z => some (Value.int .i64 z)) (by omega)
theorem sgo_at : ∀ (r cur : List UInt8), 1 ≤ r.count 10 → ∃ i : Nat, Lib.indexByte r 10 = (i : Int) ∧ i < r.length ∧ sgo r cur = (cur ++ r.take i) :: sgo (r.drop (i + 1)) []
  | [], cur, h => by simp at h
  | c :: r, cur, h => by
    by_cases hc : c = 10
    · subst hc; exact ⟨0, by simp [Lib.indexByte], by simp, by simp [sgo]⟩
    · rw [List.count_cons_of_ne hc] at h
      obtain ⟨i, h1, h2, h3⟩ := sgo_at r (cur ++ [c]) h
      refine ⟨i + 1, ?_, by simp only [List.length_cons]; omega, ?_⟩
      · have n1 : ¬ ((i : Int) == -1) = true := by simp only [beq_iff_eq]; omega
        have n2 : ¬ (c == 10) = true := by simpa using hc
        rw [Lib.indexByte, if_neg n2, h1, if_neg n1]; omega
      · simp only [sgo, if_neg hc, h3]; simp
theorem sgo_one (r : List UInt8) (h : r.count 10 = 0) : sgo r [] = [r] := by
  have h1 := sgo_run r [] [] (fun c hc h10 => by subst h10; exact absurd (List.count_pos_iff.2 hc) (by omega))
  rw [List.append_nil] at h1; rw [h1]; rfl
theorem Count_spec (s : List UInt8) : Trip Tryd.prog 29 [str s, str [10]] [] (fun u Ps => u = .int .i64 ((s.count 10 : Nat) : Int) ∧ Ps = []) := by
  constructor; intro o w Rs hw
  refine (Tryd.strings_Count_one ⟨s.toArray⟩ 10 w).mono ?_
  rintro e w' ⟨rfl, rfl⟩
  exact ⟨_, _, rfl, ⟨rfl, rfl⟩, hw⟩
theorem Index_spec (s : List UInt8) : Trip Tryd.prog 30 [str s, str [10]] [] (fun u Ps => u = .int .i64 (Lib.indexByte s 10) ∧ Ps = []) := by
  constructor; intro o w Rs hw
  refine (Tryd.strings_Index_one ⟨s.toArray⟩ 10 w).mono ?_
  rintro e w' ⟨rfl, rfl⟩
  exact ⟨_, _, rfl, ⟨rfl, rfl⟩, hw⟩
theorem trim_cr (s : List UInt8) : Lib.trimSuffix s [13] = dropCR s := by
  rw [Lib.trimSuffix, dropCR, Lib.hasSuffix]
  by_cases h : s.getLast? = some 13
  · obtain ⟨t, rfl⟩ := List.getLast?_eq_some_iff.1 h
    rw [if_pos h, if_pos (List.isSuffixOf_iff_suffix.2 ⟨t, rfl⟩)]; simp
  · rw [if_neg h, if_neg (by rw [List.isSuffixOf_iff_suffix]; rintro ⟨t, rfl⟩; exact h (by simp))]
theorem TrimSuffix_spec (s : List UInt8) (hl : s.length ≤ 1000000) : Trip Tryd.prog 23 [str s, str [13]] [] (fun u Ps => u = str (dropCR s) ∧ Ps = []) := by
  constructor; intro o w Rs hw
  refine (Tryd.strings_TrimSuffix ⟨s.toArray⟩ ⟨#[13]⟩ w (by rw [str_size]; omega)).mono ?_
  rintro e w' ⟨rfl, rfl⟩
  exact ⟨_, _, rfl, ⟨by rw [← trim_cr], rfl⟩, hw⟩
theorem genSplit_spec (s : List UInt8) (hl : s.length ≤ 1000000) : Trip Tryd.prog 25 [str s, str [10], .int .i64 0, .int .i64 (-1)] [] (fun u Ps => ∃ A c, u = .slice A (sgo s []).length c ∧ Ps = [sl Enc.str 9 A c (sgo s [])]) := by
  refine Trip.of (m := 66) Tryd.func25 rfl rfl rfl ?_
  intro o Rs
  simp only [List.cons_append, List.nil_append, enumFrom]
  have F1 := Count_spec s
  have hc := List.count_le_length (a := (10 : UInt8)) (l := s)
  have hn := sgo_len s []
  refine go ?_
  refine ⟨?_, by simp⟩ <;> intros
  have hm : min ((s.count 10 : Int) + 1) ((s.length : Int) + 1) = ((s.count 10 + 1 : Nat) : Int) := by omega
  rw [hm]
  refine W.make Enc.str ([] : List UInt8) rfl rfl rfl (by omega) (by omega) (by omega) (by omega) rfl (by (focus ((repeat (first | exact Incl.nil | (apply Incl.cons; (focus (with_reducible iterate 40 first | done | exact .here | apply Find.there); done)))); first | done | fail))) ?_
  intro B
  rw [Int.toNat_natCast, List.length_replicate]
  refine go ?_
  refine ⟨?_, by simp⟩ <;> intros
  refine loop (σ := List (List UInt8) × List UInt8) (fun x => x.1 ++ sgo x.2 [] = sgo s [] ∧ x.2.length ≤ s.length) (fun x => [(0, str x.2), (1, str [10]), (2, .int .i64 0), (3, .int .i64 ((s.count 10 : Nat) : Int)), (9, .slice (some ⟨B, 0, none⟩) (s.count 10 + 1) (s.count 10 + 1)), (10, .int .i64 (x.1.length : Int))])
    (fun x => sl Enc.str 9 (some ⟨B, 0, none⟩) (s.count 10 + 1) (x.1 ++ List.replicate (s.count 10 + 1 - x.1.length) []) :: Rs) (fun x => s.count 10 - x.1.length) ([], s) ⟨rfl, Nat.le_refl _⟩ ?_ ⟨rfl, rfl, rfl, congrArg (fun z => some (Value.int .i64 z)) (by omega), rfl, rfl, trivial⟩
  · rintro ⟨dn, re⟩ ⟨h1, h2⟩
    simp only at h1 h2 ⊢
    have h3 := congrArg List.length h1
    rw [List.length_append, sgo_len, sgo_len] at h3
    have hset : ∀ x, (dn ++ List.replicate (s.count 10 + 1 - dn.length) []).set dn.length x = (dn ++ [x]) ++ List.replicate (s.count 10 + 1 - (dn ++ [x]).length) [] := by
      intro x
      rw [List.set_append_right _ _ (Nat.le_refl _), Nat.sub_self, show s.count 10 + 1 - dn.length = (s.count 10 - dn.length) + 1 from by omega, List.replicate_succ, List.set_cons_zero, List.length_append, List.length_singleton, Nat.add_sub_add_right]; simp
    have hget : (dn ++ List.replicate (s.count 10 + 1 - dn.length) ([] : List UInt8))[dn.length]? = some [] := by
      rw [List.getElem?_append_right (Nat.le_refl _), Nat.sub_self, show s.count 10 + 1 - dn.length = (s.count 10 - dn.length) + 1 from by omega, List.replicate_succ]; rfl
    by_cases hre : 1 ≤ re.count 10
    · obtain ⟨i, h4, h5, h6⟩ := sgo_at re [] hre
      have F2 := Index_spec re
      rw [h4] at F2
      refine go ?_
      refine ⟨?_, by simp⟩ <;> intros
      rw [show ((i : Int) + 0).toNat = i from by omega, hset]
      exact rnd (dn ++ [re.take i], re.drop (i + 1)) ⟨by rw [← h1, h6]; simp, by simp only [List.length_drop]; omega⟩ (by simp only [List.length_append, List.length_singleton]; omega) ⟨rfl, rfl, rfl, rfl, rfl, congrArg (fun z => some (Value.int .i64 z)) (show ((dn.length : Nat) : Int) + 1 = ((dn ++ [re.take i]).length : Nat) by rw [List.length_append, List.length_singleton]; omega), trivial⟩
    · have hz : re.count 10 = 0 := by omega
      rw [sgo_one re hz] at h1
      have hfin : (dn ++ List.replicate (s.count 10 + 1 - dn.length) []).set dn.length re = sgo s [] := by
        rw [hset, h1, show s.count 10 + 1 - (sgo s []).length = 0 from by omega, List.replicate_zero, List.append_nil]
      refine go ?_
      refine ⟨?_, by simp⟩ <;> intros
      rw [hfin]
      refine W.slice_to (En := Enc.str) (l := sgo s []) (by rw [hn]; rfl) rfl (by (focus (with_reducible iterate 40 first | done | exact .here | apply Find.there); done)) (by omega) (by omega) rfl ?_
      rw [List.take_of_length_le (by omega)]
      refine go ?_
      refine ⟨?_, by simp⟩ <;> intros
      exact ret1 ⟨_, _, rfl, rfl⟩
theorem sgo_mem : ∀ (r cur x : List UInt8), x ∈ sgo r cur → x.length ≤ cur.length + r.length
  | [], cur, x, h => by simp only [sgo, List.mem_singleton] at h; subst h; simp
  | c :: r, cur, x, h => by
    simp only [sgo] at h
    split at h
    · rcases List.mem_cons.1 h with rfl | h
      · exact Nat.le_add_right _ _
      · have h1 := sgo_mem r [] x h; rw [List.length_nil] at h1; rw [List.length_cons]; omega
    · have h1 := sgo_mem r _ x h; rw [List.length_append, List.length_singleton] at h1; rw [List.length_cons]; omega
theorem unpiece_app : ∀ (ini : List (List UInt8)) (la : List UInt8), unpiece (ini ++ [la]) = ini.map dropCR ++ (if la = [] then [] else [la])
  | [], la => rfl
  | [x], la => rfl
  | x :: y :: r, la => by
    show dropCR x :: unpiece ((y :: r) ++ [la]) = _
    rw [unpiece_app (y :: r) la]; rfl
theorem Split_spec (s : List UInt8) (hl : s.length ≤ 1000000) : Trip Tryd.prog 22 [str s, str [10]] [] (fun u Ps => ∃ A c, u = .slice A (sgo s []).length c ∧ Ps = [sl Enc.str 9 A c (sgo s [])]) := by
  refine Trip.of (m := 8) Tryd.func22 rfl rfl rfl ?_
  intro o Rs
  simp only [List.cons_append, List.nil_append, enumFrom]
  have F1 := genSplit_spec s hl
  refine go ?_
  refine ⟨fun A c => ?_, by simp⟩
  exact ret1 ⟨A, c, rfl, rfl⟩
theorem Lines_spec (s : List UInt8) (hl : s.length ≤ 1000000) : Trip Tryd.prog 12 [str s] [] (fun u Ps => ∃ A c, u = .slice A (linesM s).length c ∧ Ps = [sl Enc.str 9 A c (linesM s)]) := by
  refine Trip.of (m := 33) Tryd.func12 rfl rfl rfl ?_
  intro o Rs
  simp only [List.cons_append, List.nil_append, enumFrom]
  have F1 := Split_spec s hl
  have hn := sgo_len s []
  have hc := List.count_le_length (a := (10 : UInt8)) (l := s)
  rw [linesM, lgo_sgo]
  refine go ?_
  refine ⟨fun A c => ?_, by simp⟩
  refine loop (fun k => k ≤ s.count 10) (fun k => [(3, .slice A (sgo s []).length c), (4, .int .i64 (s.count 10 : Int)), (11, .int .i64 (s.count 10 : Int)), (12, .int .i64 (k : Int))]) (fun k => sl Enc.str 9 A c (mix ((sgo s []).map dropCR) (sgo s []) k) :: Rs) (fun k => s.count 10 - k) 0 (Nat.zero_le _) ?_ ⟨rfl, congrArg (fun z => some (Value.int .i64 z)) (by omega), congrArg (fun z => some (Value.int .i64 z)) (by omega), rfl, trivial⟩
  have hmapl : ((sgo s []).map dropCR).length = (sgo s []).length := List.length_map ..
  intro k hk
  have hml := mix_len hmapl k
  by_cases hkc : k < s.count 10
  · obtain ⟨p, hp⟩ : ∃ p, (sgo s [])[k]? = some p := ⟨_, List.getElem?_eq_getElem (by omega)⟩
    have hpl : p.length ≤ 1000000 := by have := sgo_mem s [] p (List.mem_of_getElem? hp); simp only [List.length_nil] at this; omega
    have F2 := TrimSuffix_spec p hpl
    have hg : (mix ((sgo s []).map dropCR) (sgo s []) k)[k]? = some p := by rw [mix_get hmapl (by omega), hp]
    refine go ?_
    refine ⟨?_, by simp⟩ <;> intros
    rw [mix_set hmapl (show ((sgo s []).map dropCR)[k]? = some (dropCR p) by rw [List.getElem?_map, hp]; rfl)]
    exact rnd (k + 1) (show k + 1 ≤ s.count 10 by omega) (by omega)
  · have hke : k = s.count 10 := by omega
    subst hke
    obtain ⟨ini, la, hps, hini⟩ : ∃ ini la, sgo s [] = ini ++ [la] ∧ ini.length = s.count 10 := by
      rcases List.eq_nil_or_concat (sgo s []) with h | ⟨ini, la, h⟩
      · rw [h] at hn; simp at hn
      · rw [List.concat_eq_append] at h
        refine ⟨ini, la, h, ?_⟩
        rw [h, List.length_append, List.length_singleton] at hn; omega
    have hfin : mix ((sgo s []).map dropCR) (sgo s []) (s.count 10) = ini.map dropCR ++ [la] := by
      rw [mix, hps, List.map_append, List.take_left' (by simp [hini]), List.drop_left' hini]
    have hg : (ini.map dropCR ++ [la])[s.count 10]? = some la := by rw [List.getElem?_append_right (by simp [hini])]; simp [hini]
    have hlen : (ini.map dropCR ++ [la]).length = (sgo s []).length := by rw [← hfin]; exact hml
    rw [hfin, hps, unpiece_app]
    rw [hps] at hn hlen
    by_cases hla : la = []
    · subst hla
      rw [if_pos rfl, List.append_nil]
      have htk : (ini.map dropCR ++ [[]]).take ((s.count 10 : Nat) : Int).toNat = ini.map dropCR := by rw [Int.toNat_natCast]; exact List.take_left' (by simp [hini])
      refine go ?_
      refine ⟨?_, by simp⟩ <;> intros
      refine W.slice_to (En := Enc.str) (l := ini.map dropCR ++ [[]]) (by rw [hlen]; rfl) rfl (by (focus (with_reducible iterate 40 first | done | exact .here | apply Find.there); done)) (by omega) (by omega) rfl ?_
      rw [htk]
      refine go ?_
      refine ⟨?_, by simp⟩ <;> intros
      exact ret1 ⟨_, _, rfl, rfl⟩
    · rw [if_neg hla]
      refine go ?_
      refine ⟨?_, ?_, by simp⟩ <;> intros
      · exact absurd (by assumption) hla
      · exact ret1 ⟨A, c, by rw [hlen], rfl⟩
end Go.Proofs.YtlbhkndjmfcocaaDoor
