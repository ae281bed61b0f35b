/-
  Bytes as numbers: zbyte's Reader, walked.
-/
import Derived.Test.YthejchmhjcfdiaaCdLen
namespace Go.Proofs.Ythejchmhjcfdiaa
open Go.SL
set_option linter.unusedVariables false
set_option linter.unusedSimpArgs false
set_option maxHeartbeats 4000000
/-- What is read: the number, the bytes behind it, whether anything was bad. -/
def lenD : Nat → Nat → Nat → List UInt8 → Bool → Nat × List UInt8 × Bool
  | 0, _, _, b, _ => (0, b, true)
  | _ + 1, _, _, [], _ => (0, [], true)
  | k + 1, i, u, c :: r, bad => if k = 0 ∨ c.toNat < 128 then (u ||| c.toNat * 2 ^ (7 * i) % 18446744073709551616, r, bad || (decide (0 < i) && decide (c.toNat = 0))) else lenD k (i + 1) (u ||| (c.toNat &&& 127) * 2 ^ (7 * i) % 18446744073709551616) r bad
theorem or_add {u i x : Nat} (h : u < 2 ^ i) : u ||| x * 2 ^ i = u + x * 2 ^ i := by
  have h1 := Nat.two_pow_add_eq_or_of_lt h x
  rw [Nat.or_comm, Nat.mul_comm x, ← h1, Nat.add_comm]
theorem and127 (c : Nat) : c &&& 127 = c % 128 := by
  have := Nat.and_two_pow_sub_one_eq_mod c 7
  simpa using this
/-- What was written is read. -/
theorem lenD_lenE : ∀ (k i u v : Nat) (r : List UInt8) (bad : Bool), k + i = 8 → u < 2 ^ (7 * i) → v * 2 ^ (7 * i) < 18446744073709551616 → (0 < i → 0 < v) → lenD (k + 1) i u (lenE k v ++ r) bad = (u + v * 2 ^ (7 * i), r, bad)
  | 0, i, u, v, r, bad, hk, hu, hv, hp => by
    have hi : i = 8 := by omega
    subst hi
    have hv8 : v < 256 := by simp at hv; omega
    have hc : (UInt8.ofNat (v % 256)).toNat = v := by simp; omega
    have h0 := hp (by decide)
    simp only [lenE, List.cons_append, List.nil_append, lenD, true_or, if_true, hc]
    rw [Nat.mod_eq_of_lt hv, or_add hu, decide_eq_false (show ¬ v = 0 by omega), Bool.and_false, Bool.or_false]
  | k + 1, i, u, v, r, bad, hk, hu, hv, hp => by
    rw [lenE]
    by_cases h : v < 128
    · rw [if_pos h]
      have hc : (UInt8.ofNat v).toNat = v := by simp; omega
      simp only [List.cons_append, List.nil_append, lenD, hc, h, or_true, if_true]
      rw [Nat.mod_eq_of_lt hv, or_add hu]
      by_cases h0 : 0 < i
      · rw [decide_eq_false (show ¬ v = 0 by have := hp h0; omega), Bool.and_false, Bool.or_false]
      · rw [decide_eq_false h0, Bool.false_and, Bool.or_false]
    · rw [if_neg h]
      have hc : (UInt8.ofNat (v % 128 + 128)).toNat = v % 128 + 128 := by simp; omega
      have hp7 : 2 ^ (7 * (i + 1)) = 128 * 2 ^ (7 * i) := by rw [Nat.mul_add, Nat.pow_add, Nat.mul_comm]
      have hdm : v * 2 ^ (7 * i) = v / 128 * (128 * 2 ^ (7 * i)) + v % 128 * 2 ^ (7 * i) := by
        rw [← Nat.mul_assoc, ← Nat.add_mul]; congr 1; omega
      have hlt : v % 128 * 2 ^ (7 * i) < 18446744073709551616 := by omega
      have hle : v % 128 * 2 ^ (7 * i) + 2 ^ (7 * i) ≤ 128 * 2 ^ (7 * i) := by
        rw [← Nat.succ_mul]; exact Nat.mul_le_mul_right _ (by omega)
      simp only [List.cons_append, lenD, hc]
      rw [if_neg (by omega), and127, show (v % 128 + 128) % 128 = v % 128 from by omega, Nat.mod_eq_of_lt hlt, or_add hu,
        lenD_lenE k (i + 1) _ (v / 128) r bad (by omega) (by rw [hp7]; omega) (by rw [hp7]; omega) (fun _ => by omega), hp7, hdm]
      simp only [Prod.mk.injEq, and_true]; omega
theorem lenD_num (v : Nat) (hv : v < 18446744073709551616) (r : List UInt8) (bad : Bool) : lenD 9 0 0 (lenE 8 v ++ r) bad = (v, r, bad) := by
  have h := lenD_lenE 8 0 0 v r bad rfl (by decide) (by simpa using hv) (fun h => by omega)
  simpa using h
theorem wrap64n (z : Nat) : IntKind.u64.wrap (z : Int) = ((z % 18446744073709551616 : Nat) : Int) := by
  show ((z : Int) % 18446744073709551616) = _
  omega
theorem dec_nat (x : Nat) : ((x : Int) == 0) = decide (x = 0) := by
  rw [Bool.eq_iff_iff]; simp
/-- The reader. -/
abbrev rdr (d : Nat) (A : Option Addr) (c : Nat) (b : List UInt8) (bad : Bool) : HProp := blk d 77 [.slice A b.length c, .bool bad]
theorem len_spec (d : Nat) (A : Option Addr) (c : Nat) (b : List UInt8) (bad : Bool) (R : HProp) (hR : Reads R Enc.u8 A b) (hc : b.length ≤ c) :
    Trip Try.prog 57 [.pointer (some ⟨d, 0, none⟩)] [rdr d A c b bad, R] (fun v Ps => ∃ A' c', Reads R Enc.u8 A' (lenD 9 0 0 b bad).2.1 ∧ (lenD 9 0 0 b bad).2.1.length ≤ c' ∧ v = .int .u64 ((lenD 9 0 0 b bad).1 : Nat) ∧ Ps = [rdr d A' c' (lenD 9 0 0 b bad).2.1 (lenD 9 0 0 b bad).2.2, R]) := by
  refine Trip.of (m := 71) Try.func57 rfl rfl rfl ?_
  intro o Rs
  simp only [List.cons_append, List.nil_append, enumFrom]
  refine go ?_
  refine ⟨?_, by simp⟩ <;> intros
  refine loop (σ := Nat × Nat × List UInt8 × Option Addr × Nat) (fun x => x.1 ≤ 9 ∧ x.2.1 < 18446744073709551616 ∧ Reads R Enc.u8 x.2.2.2.1 x.2.2.1 ∧ x.2.2.1.length ≤ x.2.2.2.2 ∧ lenD (9 - x.1) x.1 x.2.1 x.2.2.1 bad = lenD 9 0 0 b bad) (fun x => [(0, .pointer (some ⟨d, 0, none⟩)), (3, .int .u64 (x.2.1 : Int)), (7, .int .i64 (x.1 : Int))]) (fun x => rdr d x.2.2.2.1 x.2.2.2.2 x.2.2.1 bad :: R :: Rs) (fun x => 9 - x.1) (0, 0, b, A, c) ⟨by omega, by show 0 < 18446744073709551616; decide, hR, hc, rfl⟩ ?_
  rintro ⟨i, u, bs, B, cc⟩ ⟨h1, h2, h3, h4, h5⟩
  simp only at h1 h2 h3 h4 h5 ⊢
  rw [← h5]
  by_cases hi : i < 9
  · rw [show 9 - i = (8 - i) + 1 from by omega]
    rcases (by cases bs with | nil => exact .inl rfl | cons x r => exact .inr ⟨x, r, rfl⟩ : bs = [] ∨ ∃ x r, bs = x :: r) with hbs | ⟨x, r, hbs⟩
    · subst hbs
      simp only [lenD]
      refine go ?_
      refine ⟨?_, by simp⟩ <;> intros
      exact ret1 ⟨B, cc, h3, h4, rfl, rfl⟩
    · have hL : lenD (8 - i + 1) i u bs bad = if 8 - i = 0 ∨ x.toNat < 128 then (u ||| x.toNat * 2 ^ (7 * i) % 18446744073709551616, r, bad || (decide (0 < i) && decide (x.toNat = 0))) else lenD (8 - i) (i + 1) (u ||| (x.toNat &&& 127) * 2 ^ (7 * i) % 18446744073709551616) r bad := by rw [hbs]; rfl
      have hlen : 1 ≤ bs.length := by rw [hbs]; simp
      have hg : bs[0]? = some x := by rw [hbs]; rfl
      have hd : bs.drop 1 = r := by rw [hbs]; rfl
      have hx := x.toNat_lt
      rw [hL]
      refine go ?_
      refine ⟨?_, by simp⟩ <;> intros
      refine W.slice_ro (R := R) (l := bs) (ka := .i64) (kb := .i64) (a := 1) (b := (bs.length : Int)) (by exact rfl) (.inr ⟨_, rfl, rfl⟩) (.inl ⟨rfl, rfl⟩) h3 h4 (by decide) (by omega) (Int.le_refl _) rfl ?_
      intro A' c' hc' hR'
      have e : (List.drop (1 : Int).toNat bs).take ((bs.length : Int).toNat - (1 : Int).toNat) = r := by
        rw [show (1 : Int).toNat = 1 from rfl, Int.toNat_natCast, hd]; exact List.take_of_length_le (by rw [← hd]; simp)
      rw [e] at hc' hR' ⊢
      by_cases h8 : i = 8
      · rw [if_pos (.inl (by omega)), decide_eq_true (show 0 < i by omega), Bool.true_and, ← dec_nat]
        cases bad with
        | true =>
          rw [Bool.true_or]
          refine go ?_
          refine ⟨?_, by simp⟩ <;> intros
          refine go ?_
          refine ⟨?_, by simp⟩ <;> intros
          refine W.shl (a := x.toNat) (m := 7 * i) (z := ((x.toNat * 2 ^ (7 * i) % 18446744073709551616 : Nat) : Int)) rfl rfl rfl (by omega) (by show 7 * i ≤ 64; omega) (wrap64n _).symm rfl ?_
          refine W.bit rfl rfl (bit_or (a := u) (b := x.toNat * 2 ^ (7 * i) % 18446744073709551616) rfl h2 (Nat.mod_lt _ (by decide))) rfl ?_
          refine go ?_
          refine ⟨?_, by simp⟩ <;> intros
          exact ret1 ⟨A', c', hR', hc', rfl, rfl⟩
        | false =>
          rw [Bool.false_or]
          refine go ?_
          refine ⟨?_, by simp⟩ <;> intros
          refine go ?_
          refine ⟨?_, by simp⟩ <;> intros
          refine W.shl (a := x.toNat) (m := 7 * i) (z := ((x.toNat * 2 ^ (7 * i) % 18446744073709551616 : Nat) : Int)) rfl rfl rfl (by omega) (by show 7 * i ≤ 64; omega) (wrap64n _).symm rfl ?_
          refine W.bit rfl rfl (bit_or (a := u) (b := x.toNat * 2 ^ (7 * i) % 18446744073709551616) rfl h2 (Nat.mod_lt _ (by decide))) rfl ?_
          refine go ?_
          refine ⟨?_, by simp⟩ <;> intros
          exact ret1 ⟨A', c', hR', hc', rfl, rfl⟩
      · by_cases hx8 : x.toNat < 128
        · rw [if_pos (.inr hx8)]
          cases bad with
          | true =>
            rw [Bool.true_or]
            refine go ?_
            refine ⟨?_, by simp⟩ <;> intros
            refine go ?_
            refine ⟨?_, by simp⟩ <;> intros
            refine W.shl (a := x.toNat) (m := 7 * i) (z := ((x.toNat * 2 ^ (7 * i) % 18446744073709551616 : Nat) : Int)) rfl rfl rfl (by omega) (by show 7 * i ≤ 64; omega) (wrap64n _).symm rfl ?_
            refine W.bit rfl rfl (bit_or (a := u) (b := x.toNat * 2 ^ (7 * i) % 18446744073709551616) rfl h2 (Nat.mod_lt _ (by decide))) rfl ?_
            refine go ?_
            refine ⟨?_, by simp⟩ <;> intros
            exact ret1 ⟨A', c', hR', hc', rfl, rfl⟩
          | false =>
            rw [Bool.false_or]
            by_cases hi0 : 0 < i
            · rw [decide_eq_true hi0, Bool.true_and, ← dec_nat]
              refine go ?_
              refine ⟨?_, by simp⟩ <;> intros
              refine go ?_
              refine ⟨?_, by simp⟩ <;> intros
              refine W.shl (a := x.toNat) (m := 7 * i) (z := ((x.toNat * 2 ^ (7 * i) % 18446744073709551616 : Nat) : Int)) rfl rfl rfl (by omega) (by show 7 * i ≤ 64; omega) (wrap64n _).symm rfl ?_
              refine W.bit rfl rfl (bit_or (a := u) (b := x.toNat * 2 ^ (7 * i) % 18446744073709551616) rfl h2 (Nat.mod_lt _ (by decide))) rfl ?_
              refine go ?_
              refine ⟨?_, by simp⟩ <;> intros
              exact ret1 ⟨A', c', hR', hc', rfl, rfl⟩
            · rw [decide_eq_false hi0, Bool.false_and]
              refine go ?_
              refine ⟨?_, by simp⟩ <;> intros
              refine go ?_
              refine ⟨?_, by simp⟩ <;> intros
              refine W.shl (a := x.toNat) (m := 7 * i) (z := ((x.toNat * 2 ^ (7 * i) % 18446744073709551616 : Nat) : Int)) rfl rfl rfl (by omega) (by show 7 * i ≤ 64; omega) (wrap64n _).symm rfl ?_
              refine W.bit rfl rfl (bit_or (a := u) (b := x.toNat * 2 ^ (7 * i) % 18446744073709551616) rfl h2 (Nat.mod_lt _ (by decide))) rfl ?_
              refine go ?_
              refine ⟨?_, by simp⟩ <;> intros
              exact ret1 ⟨A', c', hR', hc', rfl, rfl⟩
        · rw [if_neg (by omega)]
          have ha7 := Nat.and_le_left (n := x.toNat) (m := 127)
          refine go ?_
          refine ⟨?_, by simp⟩ <;> intros
          refine W.bit rfl rfl (bit_and (a := x.toNat) (b := 127) rfl hx (by decide)) rfl ?_
          refine go ?_
          refine ⟨?_, by simp⟩ <;> intros
          refine W.shl (a := x.toNat &&& 127) (m := 7 * i) (z := (((x.toNat &&& 127) * 2 ^ (7 * i) % 18446744073709551616 : Nat) : Int)) rfl rfl rfl (by omega) (by show 7 * i ≤ 64; omega) (wrap64n _).symm rfl ?_
          refine W.bit rfl rfl (bit_or (a := u) (b := (x.toNat &&& 127) * 2 ^ (7 * i) % 18446744073709551616) rfl h2 (Nat.mod_lt _ (by decide))) rfl ?_
          refine go ?_
          refine ⟨?_, by simp⟩ <;> intros
          exact rnd (i + 1, u ||| (x.toNat &&& 127) * 2 ^ (7 * i) % 18446744073709551616, r, A', c') ⟨by simp only; omega, Nat.or_lt_two_pow (n := 64) h2 (Nat.mod_lt _ (by decide)), hR', hc', by simp only; rw [show 9 - (i + 1) = 8 - i from by omega]⟩ (by simp only; omega)
  · rw [show 9 - i = 0 from by omega]
    simp only [lenD]
    refine go ?_
    refine ⟨?_, by simp⟩ <;> intros
    exact ret1 ⟨B, cc, h3, h4, rfl, rfl⟩
end Go.Proofs.Ythejchmhjcfdiaa
