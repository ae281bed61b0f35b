/-
  The Reader's Int, Count, Text and Done, walked.
-/
import Derived.Test.YthejchmhjcfdiaaCdRead
namespace Go.Proofs.Ythejchmhjcfdiaa
open Go.SL
set_option linter.unusedVariables false
set_option linter.unusedSimpArgs false
set_option maxHeartbeats 4000000
def zag (u : Nat) : Int := if u % 2 = 0 then ((u / 2 : Nat) : Int) else -((u / 2 : Nat) : Int) - 1
theorem zag_zig (n : Int) : zag (zig n) = n := by
  unfold zig zag
  split <;> split <;> omega
theorem lenD_lt : ∀ (k i u : Nat) (b : List UInt8) (bad : Bool), u < 18446744073709551616 → (lenD k i u b bad).1 < 18446744073709551616
  | 0, _, _, _, _, _ => by simp [lenD]
  | k + 1, _, _, [], _, _ => by simp [lenD]
  | k + 1, i, u, c :: r, bad, h => by
    simp only [lenD]
    split
    · exact Nat.or_lt_two_pow (n := 64) h (Nat.mod_lt _ (by decide))
    · exact lenD_lt k _ _ _ _ (Nat.or_lt_two_pow (n := 64) h (Nat.mod_lt _ (by decide)))
theorem xor_i0 (a : Nat) (h : a < 9223372036854775808) : bitI .xor .i64 (a : Int) 0 = some (a : Int) := by
  have h1 := toNat_ofInt (m := 64) (a := a) (by show a < 18446744073709551616; omega)
  have h2 := wrap64 (a := (a : Int)) (by omega) (by omega)
  simp only [bitI]
  show some (IntKind.i64.wrap ((BitVec.ofInt 64 (a : Int) ^^^ BitVec.ofInt 64 0).toNat : Int)) = _
  rw [show BitVec.ofInt 64 0 = 0#64 from rfl, BitVec.xor_zero, h1, h2]
theorem wrap_up (z : Int) (h0 : -9223372036854775808 ≤ z) (h1 : z ≤ 9223372036854775807) : IntKind.i64.wrap (z + 18446744073709551616) = z := by
  have h2 := wrap64 h0 h1
  have h3 : IntKind.i64.wrap (z + 18446744073709551616) = IntKind.i64.wrap z := by
    simp only [IntKind.wrap, IntKind.signed, IntKind.bits]
    have : (z + 18446744073709551616) % 2 ^ 64 = z % 2 ^ 64 := by omega
    simp [this]
  rw [h3, h2]
theorem xor_i1 (a : Nat) (h : a < 9223372036854775808) : bitI .xor .i64 (a : Int) (-1) = some (-(a : Int) - 1) := by
  have h1 := toNat_ofInt (m := 64) (a := a) (by show a < 18446744073709551616; omega)
  simp only [bitI]
  show some (IntKind.i64.wrap ((BitVec.ofInt 64 (a : Int) ^^^ BitVec.ofInt 64 (-1)).toNat : Int)) = _
  rw [show BitVec.ofInt 64 (-1) = BitVec.allOnes 64 from rfl, BitVec.xor_allOnes, BitVec.toNat_not, h1]
  congr 1
  rw [show ((2 ^ 64 - 1 - a : Nat) : Int) = (-(a : Int) - 1) + 18446744073709551616 from by omega]
  exact wrap_up _ (by omega) (by omega)
/-- What the reader's Int reads. -/
def intD (b : List UInt8) (bad : Bool) : Int × List UInt8 × Bool := (zag (lenD 9 0 0 b bad).1, (lenD 9 0 0 b bad).2)
theorem intD_intE (n : Int) (h0 : -9223372036854775808 ≤ n) (h1 : n ≤ 9223372036854775807) (r : List UInt8) (bad : Bool) : intD (intE n ++ r) bad = (n, r, bad) := by
  have hz : zig n < 18446744073709551616 := by unfold zig; split <;> omega
  rw [intD, intE, lenD_num _ hz, zag_zig]
theorem RInt_spec (d : Nat) (A : Option Addr) (c : Nat) (b : List UInt8) (bad : Bool) (R : HProp) (hR : Reads R Enc.u8 A b) (hc : b.length ≤ c) :
    Trip Try.prog 25 [.pointer (some ⟨d, 0, none⟩)] [rdr d A c b bad, R] (fun v Ps => ∃ A' c', Reads R Enc.u8 A' (intD b bad).2.1 ∧ (intD b bad).2.1.length ≤ c' ∧ v = .int .i64 (intD b bad).1 ∧ Ps = [rdr d A' c' (intD b bad).2.1 (intD b bad).2.2, R]) := by
  refine Trip.of (m := 14) Try.func25 rfl rfl rfl ?_
  intro o Rs
  simp only [List.cons_append, List.nil_append, enumFrom]
  have hu := lenD_lt 9 0 0 b bad (by decide)
  have L1 := len_spec d A c b bad R hR hc
  simp only [intD]
  generalize lenD 9 0 0 b bad = q at L1 hu ⊢
  obtain ⟨u, rr, bd⟩ := q
  simp only at hu L1 ⊢
  refine go ?_
  refine ⟨?_, by simp⟩ <;> intros
  refine W.callr (by exact rfl) (by (focus ((repeat (first | exact Ent.done | with_reducible exact Ent.same | (apply Ent.take; (first | (focus (with_reducible iterate 40 first | done | exact .here | apply Find.there); done) | (focus (iterate 40 first | done | exact .here | apply Find.there); done))) | (apply Ent.emp (sl_emp _ _)) | apply Ent.drop)); first | done | fail))) rfl (by (first | exact Keep.nil | (focus ((repeat (first | exact Incl.nil | (apply Incl.cons; (focus (with_reducible iterate 40 first | done | exact .here | apply Find.there); done)))); first | done | fail)) | exact Keep.free rfl | (focus (apply Keep.incl; (repeat (first | exact Incl.nil | (apply Incl.cons; (focus (with_reducible iterate 40 first | done | exact .here | apply Find.there); done)))); first | done | fail)))) (L1) ?_
  rintro _ _ ⟨A', c', hR', hc', rfl, rfl⟩
  simp only [List.cons_append, List.nil_append]
  refine go ?_
  refine ⟨?_, by simp⟩ <;> intros
  refine W.shr (a := u) (m := 1) rfl rfl rfl rfl (by decide) rfl ?_
  refine W.cv rfl (wrap64 (a := ((u / 2 ^ 1 : Nat) : Int)) (by omega) (by omega)) rfl ?_
  refine go ?_
  refine ⟨?_, by simp⟩ <;> intros
  refine W.bit rfl rfl (bit_and (a := u) (b := 1) rfl hu (by decide)) rfl ?_
  rw [Nat.and_one_is_mod]
  refine W.cv rfl (wrap64 (a := ((u % 2 : Nat) : Int)) (by omega) (by omega)) rfl ?_
  refine go ?_
  refine ⟨?_, by simp⟩ <;> intros
  by_cases h2 : u % 2 = 0
  · refine W.bit (z := zag u) rfl (by rw [h2]; rfl) (by rw [zag, if_pos h2]; exact xor_i0 _ (by omega)) rfl ?_
    refine go ?_
    refine ⟨?_, by simp⟩ <;> intros
    exact ret1 ⟨A', c', hR', hc', rfl, rfl⟩
  · refine W.bit (z := zag u) rfl (by rw [show u % 2 = 1 from by omega]; rfl) (by rw [zag, if_neg h2]; exact xor_i1 _ (by omega)) rfl ?_
    refine go ?_
    refine ⟨?_, by simp⟩ <;> intros
    exact ret1 ⟨A', c', hR', hc', rfl, rfl⟩
theorem lenD_len : ∀ (k i u : Nat) (b : List UInt8) (bad : Bool), (lenD k i u b bad).2.1.length ≤ b.length
  | 0, _, _, b, _ => Nat.le_refl _
  | k + 1, _, _, [], _ => Nat.le_refl _
  | k + 1, i, u, c :: r, bad => by
    simp only [lenD]
    split
    · simp
    · have := lenD_len k (i + 1) (u ||| (c.toNat &&& 127) * 2 ^ (7 * i) % 18446744073709551616) r bad
      simp only [List.length_cons]; omega
def cntD (b : List UInt8) (bad : Bool) : Nat × List UInt8 × Bool := if (lenD 9 0 0 b bad).2.2 = true ∨ (lenD 9 0 0 b bad).2.1.length < (lenD 9 0 0 b bad).1 then (0, (lenD 9 0 0 b bad).2.1, true) else ((lenD 9 0 0 b bad).1, (lenD 9 0 0 b bad).2.1, false)
theorem cntD_lenE (n : Nat) (hn : n < 18446744073709551616) (r : List UInt8) (h : n ≤ r.length) : cntD (lenE 8 n ++ r) false = (n, r, false) := by
  rw [cntD, lenD_num n hn]; simp; omega
theorem cntD_le (b : List UInt8) (bad : Bool) : (cntD b bad).1 ≤ (cntD b bad).2.1.length := by
  rw [cntD]; split
  · exact Nat.zero_le _
  · rename_i h; simp only [not_or] at h ⊢; omega
theorem Count_spec (d : Nat) (A : Option Addr) (c : Nat) (b : List UInt8) (bad : Bool) (R : HProp) (hR : Reads R Enc.u8 A b) (hc : b.length ≤ c) (hbl : b.length ≤ 1000000) :
    Trip Try.prog 58 [.pointer (some ⟨d, 0, none⟩)] [rdr d A c b bad, R] (fun v Ps => ∃ A' c', Reads R Enc.u8 A' (cntD b bad).2.1 ∧ (cntD b bad).2.1.length ≤ c' ∧ v = .int .i64 ((cntD b bad).1 : Nat) ∧ Ps = [rdr d A' c' (cntD b bad).2.1 (cntD b bad).2.2, R]) := by
  refine Trip.of (m := 25) Try.func58 rfl rfl rfl ?_
  intro o Rs
  simp only [List.cons_append, List.nil_append, enumFrom]
  have hu := lenD_lt 9 0 0 b bad (by decide)
  have L1 := len_spec d A c b bad R hR hc
  have hcm := lenD_len 9 0 0 b bad
  simp only [cntD]
  generalize lenD 9 0 0 b bad = q at L1 hu hcm ⊢
  obtain ⟨u, rr, bd⟩ := q
  simp only at hu L1 hcm ⊢
  refine go ?_
  refine ⟨?_, by simp⟩ <;> intros
  refine W.callr (by exact rfl) (by (focus ((repeat (first | exact Ent.done | with_reducible exact Ent.same | (apply Ent.take; (first | (focus (with_reducible iterate 40 first | done | exact .here | apply Find.there); done) | (focus (iterate 40 first | done | exact .here | apply Find.there); done))) | (apply Ent.emp (sl_emp _ _)) | apply Ent.drop)); first | done | fail))) rfl (by (first | exact Keep.nil | (focus ((repeat (first | exact Incl.nil | (apply Incl.cons; (focus (with_reducible iterate 40 first | done | exact .here | apply Find.there); done)))); first | done | fail)) | exact Keep.free rfl | (focus (apply Keep.incl; (repeat (first | exact Incl.nil | (apply Incl.cons; (focus (with_reducible iterate 40 first | done | exact .here | apply Find.there); done)))); first | done | fail)))) (L1) ?_
  rintro _ _ ⟨A', c', hR', hc', rfl, rfl⟩
  simp only [List.cons_append, List.nil_append]
  cases bd with
  | true =>
    rw [if_pos (.inl rfl)]
    refine go ?_
    refine ⟨?_, by simp⟩ <;> intros
    exact ret1 ⟨A', c', hR', hc', rfl, rfl⟩
  | false =>
    by_cases hlu : rr.length < u
    · rw [if_pos (.inr hlu)]
      refine go ?_
      refine ⟨?_, by simp⟩ <;> intros
      refine go ?_
      refine ⟨?_, by simp⟩ <;> intros
      exact ret1 ⟨A', c', hR', hc', rfl, rfl⟩
    · rw [if_neg (by simp; omega)]
      refine go ?_
      refine ⟨?_, by simp⟩ <;> intros
      refine go ?_
      refine ⟨?_, by simp⟩ <;> intros
      exact ret1 ⟨A', c', hR', hc', rfl, rfl⟩
theorem cntD_len (b : List UInt8) (bad : Bool) : (cntD b bad).2.1.length ≤ b.length := by
  have := lenD_len 9 0 0 b bad
  rw [cntD]; split <;> exact this
def textD (b : List UInt8) (bad : Bool) : List UInt8 × List UInt8 × Bool := ((cntD b bad).2.1.take (cntD b bad).1, (cntD b bad).2.1.drop (cntD b bad).1, (cntD b bad).2.2)
theorem textD_textE (s r : List UInt8) (hs : s.length ≤ 1000000) : textD (textE s ++ r) false = (s, r, false) := by
  have h := cntD_lenE s.length (by omega) (s ++ r) (by simp)
  rw [textD, textE, List.append_assoc, h]; simp
theorem RText_spec (d : Nat) (A : Option Addr) (c : Nat) (b : List UInt8) (bad : Bool) (R : HProp) (hR : Reads R Enc.u8 A b) (hc : b.length ≤ c) (hbl : b.length ≤ 1000000) :
    Trip Try.prog 30 [.pointer (some ⟨d, 0, none⟩)] [rdr d A c b bad, R] (fun v Ps => ∃ A' c', Reads R Enc.u8 A' (textD b bad).2.1 ∧ (textD b bad).2.1.length ≤ c' ∧ v = str (textD b bad).1 ∧ Ps = [rdr d A' c' (textD b bad).2.1 (textD b bad).2.2, R]) := by
  refine Trip.of (m := 24) Try.func30 rfl rfl rfl ?_
  intro o Rs
  simp only [List.cons_append, List.nil_append, enumFrom]
  have L1 := Count_spec d A c b bad R hR hc hbl
  have hle := cntD_le b bad
  have hln := cntD_len b bad
  simp only [textD]
  generalize cntD b bad = q at L1 hle hln ⊢
  obtain ⟨n, rr, bd⟩ := q
  simp only at L1 hle hln ⊢
  refine go ?_
  refine ⟨?_, by simp⟩ <;> intros
  refine W.callr (by exact rfl) (by (focus ((repeat (first | exact Ent.done | with_reducible exact Ent.same | (apply Ent.take; (first | (focus (with_reducible iterate 40 first | done | exact .here | apply Find.there); done) | (focus (iterate 40 first | done | exact .here | apply Find.there); done))) | (apply Ent.emp (sl_emp _ _)) | apply Ent.drop)); first | done | fail))) rfl (by (first | exact Keep.nil | (focus ((repeat (first | exact Incl.nil | (apply Incl.cons; (focus (with_reducible iterate 40 first | done | exact .here | apply Find.there); done)))); first | done | fail)) | exact Keep.free rfl | (focus (apply Keep.incl; (repeat (first | exact Incl.nil | (apply Incl.cons; (focus (with_reducible iterate 40 first | done | exact .here | apply Find.there); done)))); first | done | fail)))) (L1) ?_
  rintro _ _ ⟨A', c', hR', hc', rfl, rfl⟩
  simp only [List.cons_append, List.nil_append]
  refine go ?_
  refine ⟨?_, by simp⟩ <;> intros
  refine W.slice_ro (R := R) (l := rr) (ka := .i64) (kb := .i64) (a := 0) (b := (n : Int)) (by exact rfl) (.inl ⟨rfl, rfl⟩) (.inr ⟨_, rfl, rfl⟩) hR' hc' (by decide) (by omega) (by omega) rfl ?_
  intro A2 c2 hc2 hR2
  have e : (List.drop (0 : Int).toNat rr).take ((n : Int).toNat - (0 : Int).toNat) = rr.take n := by simp
  rw [e] at hc2 hR2 ⊢
  refine go ?_
  refine ⟨?_, by simp⟩ <;> intros
  refine W.slice_ro (R := R) (l := rr) (ka := .i64) (kb := .i64) (a := (n : Int)) (b := (rr.length : Int)) (by exact rfl) (.inr ⟨_, rfl, rfl⟩) (.inl ⟨rfl, rfl⟩) hR' hc' (by omega) (by omega) (Int.le_refl _) rfl ?_
  intro A3 c3 hc3 hR3
  have e3 : (List.drop (n : Int).toNat rr).take ((rr.length : Int).toNat - (n : Int).toNat) = rr.drop n := by
    rw [Int.toNat_natCast, Int.toNat_natCast]; exact List.take_of_length_le (by simp)
  rw [e3] at hc3 hR3 ⊢
  refine go ?_
  refine ⟨?_, by simp⟩ <;> intros
  exact ret1 ⟨A3, c3, hR3, hc3, rfl, rfl⟩
theorem Done_spec (d : Nat) (A : Option Addr) (c : Nat) (b : List UInt8) (bad : Bool) :
    Trip Try.prog 39 [.pointer (some ⟨d, 0, none⟩)] [rdr d A c b bad] (fun v Ps => v = .bool (!bad && decide (b = [])) ∧ Ps = [rdr d A c b bad]) := by
  refine Trip.of (m := 16) Try.func39 rfl rfl rfl ?_
  intro o Rs
  simp only [List.cons_append, List.nil_append, enumFrom]
  cases bad with
  | true =>
    refine go ?_
    simp
  | false =>
    rcases (by cases b with | nil => exact .inl rfl | cons x r => exact .inr (by simp) : b = [] ∨ 1 ≤ b.length) with hb | hb
    · subst hb
      refine go ?_
      refine ⟨?_, by simp⟩ <;> intros
      simp
    · have hne : b ≠ [] := by rintro rfl; simp at hb
      rw [decide_eq_false hne]
      refine go ?_
      refine ⟨?_, by simp⟩ <;> intros
      simp [hne]
def yesD (b : List UInt8) (bad : Bool) : Bool × List UInt8 × Bool := ((intD b bad).1 == 1, (intD b bad).2.1, (intD b bad).2.2 || (decide ((intD b bad).1 < 0) || decide (1 < (intD b bad).1)))
theorem yes_spec (d : Nat) (A : Option Addr) (c : Nat) (b : List UInt8) (bad : Bool) (R : HProp) (hR : Reads R Enc.u8 A b) (hc : b.length ≤ c) :
    Trip Try.prog 59 [.pointer (some ⟨d, 0, none⟩)] [rdr d A c b bad, R] (fun v Ps => ∃ A' c', Reads R Enc.u8 A' (yesD b bad).2.1 ∧ (yesD b bad).2.1.length ≤ c' ∧ v = .bool (yesD b bad).1 ∧ Ps = [rdr d A' c' (yesD b bad).2.1 (yesD b bad).2.2, R]) := by
  refine Trip.of (m := 23) Try.func59 rfl rfl rfl ?_
  intro o Rs
  simp only [List.cons_append, List.nil_append, enumFrom]
  have L1 := RInt_spec d A c b bad R hR hc
  simp only [yesD]
  generalize intD b bad = q at L1 ⊢
  obtain ⟨n, rr, bd⟩ := q
  simp only at L1 ⊢
  refine go ?_
  refine ⟨?_, by simp⟩ <;> intros
  refine W.callr (by exact rfl) (by (focus ((repeat (first | exact Ent.done | with_reducible exact Ent.same | (apply Ent.take; (first | (focus (with_reducible iterate 40 first | done | exact .here | apply Find.there); done) | (focus (iterate 40 first | done | exact .here | apply Find.there); done))) | (apply Ent.emp (sl_emp _ _)) | apply Ent.drop)); first | done | fail))) rfl (by (first | exact Keep.nil | (focus ((repeat (first | exact Incl.nil | (apply Incl.cons; (focus (with_reducible iterate 40 first | done | exact .here | apply Find.there); done)))); first | done | fail)) | exact Keep.free rfl | (focus (apply Keep.incl; (repeat (first | exact Incl.nil | (apply Incl.cons; (focus (with_reducible iterate 40 first | done | exact .here | apply Find.there); done)))); first | done | fail)))) (L1) ?_
  rintro _ _ ⟨A', c', hR', hc', rfl, rfl⟩
  simp only [List.cons_append, List.nil_append]
  cases bd with
  | true =>
    rw [Bool.true_or]
    refine go ?_
    refine ⟨?_, by simp⟩ <;> intros
    exact ret1 ⟨A', c', hR', hc', rfl, rfl⟩
  | false =>
    rw [Bool.false_or]
    rcases (by omega : n < 0 ∨ (0 ≤ n ∧ n ≤ 1) ∨ 1 < n) with h | ⟨h, h'⟩ | h
    · rw [decide_eq_true h, Bool.true_or]
      refine go ?_
      refine ⟨?_, by simp⟩ <;> intros
      exact ret1 ⟨A', c', hR', hc', rfl, rfl⟩
    · rw [decide_eq_false (show ¬ n < 0 by omega), Bool.false_or]
      refine go ?_
      refine ⟨?_, by simp⟩ <;> intros
      exact ret1 ⟨A', c', hR', hc', rfl, rfl⟩
    · rw [decide_eq_false (show ¬ n < 0 by omega), Bool.false_or]
      refine go ?_
      refine ⟨?_, by simp⟩ <;> intros
      exact ret1 ⟨A', c', hR', hc', rfl, rfl⟩
end Go.Proofs.Ythejchmhjcfdiaa
