/-
  Walks and laws joined: WdBank.
-/
import Derived.Test.YtflmbhkjhfmeoaaGreatQ17
import Derived.Lib.ItoaLen
set_option linter.unusedVariables false
set_option linter.unusedSimpArgs false
namespace Go.Proofs.YtflmbhkjhfmeoaaGreat
open Go.SL
set_option maxHeartbeats 8000000
set_option maxRecDepth 20000
theorem tmod_range (a b : Int) (hb : 1 ≤ b) : -b < a.tmod b ∧ a.tmod b < b := by
  by_cases h : 0 ≤ a
  · rw [← rem64 h]
    have h1 := Int.emod_nonneg a (show b ≠ 0 by omega)
    have h2 := Int.emod_lt_of_pos a (show 0 < b by omega)
    omega
  · rw [← rem64n (show a ≤ 0 by omega)]
    have h1 := Int.emod_nonneg (-a) (show b ≠ 0 by omega)
    have h2 := Int.emod_lt_of_pos (-a) (show 0 < b by omega)
    omega
theorem move_val (a b n : Int) : moveN a b n = (a, b, false) ∨ moveN a b n = (a - n, b + n, true) := by
  unfold moveN; split
  · exact .inl rfl
  · exact .inr rfl
theorem nT_len (x : Int) (h0 : -9223372036854775808 ≤ x) (h1 : x ≤ 9223372036854775807) : (nT x).length ≤ 21 := Lib.itoa_length_le x h0 h1
theorem num_range (s : Tx) : 0 ≤ (numM s).1 ∧ (numM s).1 ≤ 1099511627776 := by
  unfold numM
  split
  · rename_i h
    simp only [Bool.and_eq_true, decide_eq_true_eq] at h
    exact ⟨by simp only; omega, by simp only; omega⟩
  · simp
section
variable (t d e : Nat) (m : Lay) (w : Wld) (mt : Tay) (tab : Tab) (S : List Sy) (u : Int)
theorem Roll_spec (b : Nat) (A : Option Addr) (c : Nat) (L : List Int) (hok : ∀ n ∈ L, -9223372036854775808 ≤ n ∧ n ≤ 9223372036854775807) (R : HProp) (hR : Reads R E64 A L) (k : Nat) (hl : L.length ≤ 100000) (sides : Int) (h1 : 1 ≤ sides) (h2 : sides ≤ 1000) :
    Trip Tryz.prog 73 [.pointer (some ⟨b, 0, none⟩), .int .i64 sides] [blk b 46 [.slice A L.length c, .int .i64 (k : Int)], R] (fun v Ps => v = .int .i64 (rollN L k sides).1 ∧ Ps = [blk b 46 [.slice A L.length c, .int .i64 ((rollN L k sides).2 : Int)], R]) := by
  refine Trip.of (m := 44) Tryz.func73 rfl rfl rfl ?_
  intro o Rs
  simp only [List.cons_append, List.nil_append, enumFrom]
  unfold rollN
  by_cases hk : L.length ≤ k
  · rw [if_pos hk]
    refine goW ?_
    simp
  · rw [if_neg hk]
    obtain ⟨y, hy⟩ : ∃ y, L[k]? = some y := ⟨_, List.getElem?_eq_getElem (by omega)⟩
    have hyk := hok y (List.mem_of_getElem? hy)
    rw [show L.getD k 0 = y from by simp [List.getD, hy]]
    have htm := tmod_range y sides h1
    refine goW ?_
    refine ⟨?_, by simp⟩ <;> intros
    refine W.rem (z := y.tmod sides) rfl rfl (by omega) rfl rfl ?_
    generalize y.tmod sides = r at *
    by_cases hr : r < 0
    · rw [if_pos hr]
      refine goW ?_
      simp
    · rw [if_neg hr]
      refine goW ?_
      simp
theorem Bank_spec (bw : Bw w) (bt : Bt tab) (lm : Laid m w) (R : HProp) [hr : RT R e mt tab] (name s : Tx) (back : Bool) (hb : ∀ x ∈ w.chars, (0 ≤ x.gold ∧ x.gold ≤ 4611686018427387904) ∧ 0 ≤ x.bank ∧ x.bank ≤ 4611686018427387904) (hS : S.length ≤ 200000) :
    Trip Tryz.prog 227 [.pointer (some ⟨t, 0, none⟩), str name, str s, .bool back] [ts t d e S u, wl d m w, R] (fun v Ps => v = .tuple #[] ∧ Ps = [ts t d e (S ++ (bankA numM tab w name s back).2) u, wl d m (bankA numM tab w name s back).1, R]) := by
  refine Trip.of (m := 109) Tryz.func227 rfl rfl rfl ?_
  intro o Rs
  simp only [List.cons_append, List.nil_append, enumFrom]
  haveI : Plan 8 [49, 53] [0, 1, 2, 3, 4, 5, 6, 7, 8, 9, 10, 11, 12, 13, 14, 15, 16] := ⟨⟩
  haveI : Plan 13 [76, 80] [0, 1, 2, 3, 4, 5, 6, 7, 8, 9, 10, 11, 12, 13, 14, 15, 16] := ⟨⟩
  unfold bankA
  have zc : w.chars.length = (w.chars.zip m.dn).length := by rw [List.length_zip, lm.1, Nat.min_self]
  have F1 := on_spec t d e m w S u bw lm name
  rcases hc : onI w name with _ | c
  · rw [hc] at F1
    simp only [iv] at F1 ⊢
    refine goW ?_
    refine ⟨?_, by simp⟩ <;> intros
    exact ret0 ⟨rfl, by rw [List.append_nil]⟩
  obtain ⟨x, hx, hon, hnm⟩ := on_get hc
  have hcl := (List.getElem?_eq_some_iff.1 hx).1
  obtain ⟨⟨A0, c0⟩, hz, _⟩ := zip_get hx lm.1
  rw [hc] at F1
  simp only [iv, getD_of hx] at F1 ⊢
  have F2 := roomKind_spec t d e m w mt tab S u bw bt lm R c x hx
  have F3 := say_spec t d e S u name [84, 104, 101, 114, 101, 32, 105, 115, 32, 110, 111, 32, 98, 97, 110, 107, 32, 104, 101, 114, 101, 46] (by omega)
  by_cases hk : roomK tab w c = 2
  case neg =>
    rw [if_pos hk]
    generalize roomK tab w c = k at *
    refine goW ?_
    refine ⟨?_, by simp⟩ <;> intros
    exact ret0 ⟨rfl, rfl⟩
  rw [if_neg (by simpa using hk)]
  rw [hk] at F2
  have F4 := much_spec t d e S u name s (by omega)
  have hnr := num_range s
  cases hm : muchN numM s with
  | none =>
    rw [hm] at F4
    simp only [Option.isNone_none, if_true, Option.getD_none] at F4 ⊢
    refine goW ?_
    refine ⟨?_, by simp⟩ <;> intros
    exact ret0 ⟨rfl, rfl⟩
  | some n =>
    have hn : 1 ≤ n ∧ n ≤ 1099511627776 := by
      unfold muchN at hm
      split at hm
      · cases hm
      · rename_i h
        simp only [not_or, Option.some.injEq] at h hm
        omega
    rw [hm] at F4
    simp only [Option.isNone_some, Bool.false_eq_true, if_false, Option.getD_some, List.append_nil] at F4 ⊢
    obtain ⟨hg, hbk⟩ := hb x (List.mem_of_getElem? hx)
    have F5 := Move_spec x.bank x.gold n (by omega) (by omega) (by omega)
    have F6 := Move_spec x.gold x.bank n (by omega) (by omega) (by omega)
    cases back
    · rcases move_val x.gold x.bank n with hmv | hmv
      · rw [hmv] at F6
        simp only [Bool.false_eq_true, if_false, hmv, if_true]
        have F7 := say_spec t d e S u name [89, 111, 117, 32, 104, 97, 118, 101, 32, 110, 111, 116, 32, 115, 111, 32, 109, 117, 99, 104, 46] (by omega)
        refine goW ?_
        refine ⟨?_, by simp⟩ <;> intros
        exact ret0 ⟨rfl, rfl⟩
      · rw [hmv] at F6
        simp only [Bool.false_eq_true, if_false, hmv, reduceCtorEq]
        rw [setC_eq hx]
        have hln := nT_len (x.bank + n) (by omega) (by omega)
        have F7 := n_spec (x.bank + n) (by omega) (by omega)
        have F8 := say_spec t d e S u name ([89, 111, 117, 32, 104, 97, 118, 101, 32] ++ nT (x.bank + n) ++ [32, 105, 110, 32, 116, 104, 101, 32, 98, 97, 110, 107, 46]) (by omega)
        refine goW ?_
        refine ⟨?_, by simp⟩ <;> intros
        exact ret0 ⟨rfl, rfl⟩
    · rcases move_val x.bank x.gold n with hmv | hmv
      · rw [hmv] at F5
        simp only [if_true, hmv]
        have F7 := say_spec t d e S u name [84, 104, 101, 32, 98, 97, 110, 107, 32, 104, 97, 115, 32, 110, 111, 116, 32, 115, 111, 32, 109, 117, 99, 104, 46] (by omega)
        refine goW ?_
        refine ⟨?_, by simp⟩ <;> intros
        exact ret0 ⟨rfl, rfl⟩
      · rw [hmv] at F5
        simp only [if_true, hmv, reduceCtorEq, if_false]
        rw [setC_eq hx]
        have hln := nT_len (x.bank - n) (by omega) (by omega)
        have F7 := n_spec (x.bank - n) (by omega) (by omega)
        have F8 := say_spec t d e S u name ([89, 111, 117, 32, 104, 97, 118, 101, 32] ++ nT (x.bank - n) ++ [32, 105, 110, 32, 116, 104, 101, 32, 98, 97, 110, 107, 46]) (by omega)
        refine goW ?_
        refine ⟨?_, by simp⟩ <;> intros
        exact ret0 ⟨rfl, rfl⟩
end
end Go.Proofs.YtflmbhkjhfmeoaaGreat
