/-
  Numbers as bytes: zbyte's Len, Int and Text, walked.
-/
import Derived.Test.YthejchmhjcfdiaaSLApp
namespace Go.Proofs.Ythejchmhjcfdiaa
open Go.SL
set_option linter.unusedVariables false
set_option linter.unusedSimpArgs false
set_option maxHeartbeats 4000000
/-- A number as seven bits a byte, so many bytes at most ahead of the last. -/
def lenE : Nat → Nat → List UInt8
  | 0, u => [UInt8.ofNat (u % 256)]
  | k + 1, u => if u < 128 then [UInt8.ofNat u] else UInt8.ofNat (u % 128 + 128) :: lenE k (u / 128)
theorem lenE_len : ∀ (k u : Nat), (lenE k u).length ≤ k + 1
  | 0, u => by simp [lenE]
  | k + 1, u => by
    rw [lenE]; split
    · simp
    · have := lenE_len k (u / 128); simp only [List.length_cons]; omega
theorem wrap8n (z : Nat) : IntKind.u8.wrap (z : Int) = ((z % 256 : Nat) : Int) := by
  show ((z : Int) % 256) = _
  omega
theorem or128 (z : Nat) : (z % 256 ||| 128) = z % 128 + 128 := by
  have h : ∀ m : Fin 256, (m.1 ||| 128) = m.1 % 128 + 128 := by decide +kernel
  have h1 := h ⟨z % 256, Nat.mod_lt _ (by decide)⟩
  simp only at h1
  omega
theorem Len_spec (u : Nat) (hu : u < 18446744073709551616) (l : List UInt8) (A : Option Addr) (c : Nat) (hl : l.length ≤ 1000000) :
    Trip Try.prog 20 [.slice A l.length c, .int .u64 (u : Int)] [sl Enc.u8 5 A c l] (fun v Ps => ∃ A' c', v = .slice A' (l ++ lenE 8 u).length c' ∧ Ps = [sl Enc.u8 5 A' c' (l ++ lenE 8 u)]) := by
  refine Trip.of (m := 28) Try.func20 rfl rfl rfl ?_
  intro o Rs
  simp only [List.cons_append, List.nil_append, enumFrom]
  refine go ?_
  refine ⟨?_, by simp⟩ <;> intros
  refine loop (σ := Nat × Nat × List UInt8 × Option Addr × Nat) (fun x => x.1 ≤ 8 ∧ x.2.1 < 18446744073709551616 ∧ x.2.2.1.length ≤ l.length + x.1 ∧ x.2.2.1 ++ lenE (8 - x.1) x.2.1 = l ++ lenE 8 u) (fun x => [(0, .slice x.2.2.2.1 x.2.2.1.length x.2.2.2.2), (1, .int .u64 (x.2.1 : Int)), (5, .int .i64 (x.1 : Int))]) (fun x => sl Enc.u8 5 x.2.2.2.1 x.2.2.2.2 x.2.2.1 :: Rs) (fun x => 8 - x.1) (0, u, l, A, c) ⟨by omega, hu, by simp, rfl⟩ ?_
  rintro ⟨k, z, b, B, d⟩ ⟨h1, h2, h3, h4⟩
  simp only at h1 h2 h3 h4 ⊢
  by_cases hk : k < 8
  · rw [show 8 - k = (8 - (k + 1)) + 1 from by omega, lenE] at h4
    by_cases hz : z < 128
    · rw [if_pos hz] at h4
      refine go ?_
      refine ⟨?_, by simp⟩ <;> intros
      rw [Int.toNat_natCast, h4]
      exact ret1 ⟨_, _, rfl, rfl⟩
    · rw [if_neg hz] at h4
      refine go ?_
      refine ⟨?_, by simp⟩ <;> intros
      refine W.cv rfl (wrap8n z) rfl ?_
      refine W.bit rfl rfl (bit_or (a := z % 256) (b := 128) rfl (Nat.mod_lt _ (by decide)) (by decide)) rfl ?_
      rw [or128]
      refine go ?_
      refine ⟨?_, by simp⟩ <;> intros
      refine W.shr (a := z) (m := 7) rfl rfl rfl rfl (by decide) rfl ?_
      refine go ?_
      refine ⟨?_, by simp⟩ <;> intros
      rename_i A' c'
      rw [Int.toNat_natCast]
      exact rnd (k + 1, z / 128, b ++ [UInt8.ofNat (z % 128 + 128)], A', c') ⟨by simp only; omega, by simp only; omega, by simp; omega, by simp only; rw [List.append_assoc]; exact h4⟩ (by simp only; omega)
  · rw [show 8 - k = 0 from by omega, lenE] at h4
    refine go ?_
    refine ⟨?_, by simp⟩ <;> intros
    refine W.cv rfl (wrap8n z) rfl ?_
    refine go ?_
    refine ⟨?_, by simp⟩ <;> intros
    rw [Int.toNat_natCast, h4]
    exact ret1 ⟨_, _, rfl, rfl⟩
theorem xor_ones (a : Nat) (h : a < 18446744073709551616) : a ^^^ 18446744073709551615 = 18446744073709551615 - a := by
  have h1 := congrArg BitVec.toNat (BitVec.xor_allOnes (x := BitVec.ofNat 64 a))
  rw [BitVec.toNat_xor, BitVec.toNat_not, BitVec.toNat_allOnes, BitVec.toNat_ofNat, Nat.mod_eq_of_lt h] at h1
  exact h1
/-- A number as it is written: twice it, or the odd number of what is below 0. -/
def zig (n : Int) : Nat := if 0 ≤ n then (2 * n).toNat else (-2 * n - 1).toNat
def intE (n : Int) : List UInt8 := lenE 8 (zig n)
theorem intE_len (n : Int) : (intE n).length ≤ 9 := lenE_len 8 _
theorem Int_spec (n : Int) (h0 : -9223372036854775808 ≤ n) (h1 : n ≤ 9223372036854775807) (l : List UInt8) (A : Option Addr) (c : Nat) (hl : l.length ≤ 1000000) :
    Trip Try.prog 55 [.slice A l.length c, .int .i64 n] [sl Enc.u8 5 A c l] (fun v Ps => ∃ A' c', v = .slice A' (l ++ intE n).length c' ∧ Ps = [sl Enc.u8 5 A' c' (l ++ intE n)]) := by
  refine Trip.of (m := 14) Try.func55 rfl rfl rfl ?_
  intro o Rs
  simp only [List.cons_append, List.nil_append, enumFrom]
  rcases (by omega : 0 ≤ n ∨ n < 0) with hs | hs
  · obtain ⟨u, rfl⟩ := Int.eq_ofNat_of_zero_le hs
    have hz : zig (u : Int) = 2 * u := by rw [zig, if_pos hs]; omega
    have F1 := Len_spec (2 * u) (by omega) l A c hl
    refine go ?_
    refine ⟨?_, by simp⟩ <;> intros
    refine W.shl (a := u) (m := 1) (z := ((2 * u : Nat) : Int)) rfl rfl rfl rfl (by decide) (by rw [wrap_nat rfl (by show u * 2 ^ 1 < 18446744073709551616; omega)]; omega) rfl ?_
    refine go ?_
    refine ⟨?_, by simp⟩ <;> intros
    refine W.shri (m := 63) (z := 0) rfl rfl rfl (by decide) (by omega) rfl ?_
    refine W.cv (b := 0) rfl rfl rfl ?_
    refine W.bit (z := ((2 * u : Nat) : Int)) rfl rfl (by have h := bit_xor (k := .u64) (a := 2 * u) (b := 0) rfl (by show 2 * u < 18446744073709551616; omega) (by decide); rw [Nat.xor_zero] at h; exact h) rfl ?_
    rw [intE, hz]
    refine go ?_
    refine ⟨?_, by simp⟩ <;> intros
    exact ret1 ⟨_, _, rfl, rfl⟩
  · have hz : ((zig n : Nat) : Int) = -2 * n - 1 := by rw [zig, if_neg (by omega)]; omega
    have F1 := Len_spec (zig n) (by omega) l A c hl
    obtain ⟨u, hu⟩ : ∃ u : Nat, n + 18446744073709551616 = (u : Int) := ⟨(n + 18446744073709551616).toNat, by omega⟩
    obtain ⟨v, hv⟩ : ∃ v : Nat, 2 * n + 18446744073709551616 = (v : Int) := ⟨(2 * n + 18446744073709551616).toNat, by omega⟩
    refine go ?_
    refine ⟨?_, by simp⟩ <;> intros
    refine W.cv rfl (show IntKind.u64.wrap n = (u : Int) by show n % 18446744073709551616 = _; omega) rfl ?_
    refine W.shl (a := u) (m := 1) (z := (v : Int)) rfl rfl rfl rfl (by decide) (by show (v : Int) = ((u * 2 ^ 1 : Nat) : Int) % 18446744073709551616; omega) rfl ?_
    refine go ?_
    refine ⟨?_, by simp⟩ <;> intros
    refine W.shri (m := 63) (z := -1) rfl rfl rfl (by decide) (by omega) rfl ?_
    refine W.cv (b := 18446744073709551615) rfl rfl rfl ?_
    refine W.bit (z := ((zig n : Nat) : Int)) rfl rfl (by have h := bit_xor (k := .u64) (a := v) (b := 18446744073709551615) rfl (by show v < 18446744073709551616; omega) (by decide); rw [xor_ones v (by omega), show 18446744073709551615 - v = zig n from by omega] at h; exact h) rfl ?_
    rw [intE]
    refine go ?_
    refine ⟨?_, by simp⟩ <;> intros
    exact ret1 ⟨_, _, rfl, rfl⟩
def textE (s : List UInt8) : List UInt8 := lenE 8 s.length ++ s
theorem Text_spec (s : List UInt8) (hs : s.length ≤ 100000) (l : List UInt8) (A : Option Addr) (c : Nat) (hl : l.length ≤ 800000) :
    Trip Try.prog 23 [.slice A l.length c, str s] [sl Enc.u8 5 A c l] (fun v Ps => ∃ A' c', v = .slice A' (l ++ textE s).length c' ∧ Ps = [sl Enc.u8 5 A' c' (l ++ textE s)]) := by
  refine Trip.of (m := 12) Try.func23 rfl rfl rfl ?_
  intro o Rs
  simp only [List.cons_append, List.nil_append, enumFrom]
  have F1 := Len_spec s.length (by omega) l A c (by omega)
  have hll := lenE_len 8 s.length
  refine go ?_
  refine ⟨?_, by simp⟩ <;> intros
  refine W.app_str (by exact rfl) (by exact rfl) (by (focus (with_reducible iterate 40 first | done | exact .here | apply Find.there); done)) rfl (by simp only [List.length_append]; omega) (by simp only [List.length_append]; omega) rfl (by (first | exact Keep.nil | (focus ((repeat (first | exact Incl.nil | (apply Incl.cons; (focus (with_reducible iterate 40 first | done | exact .here | apply Find.there); done)))); first | done | fail)) | exact Keep.free rfl | (focus (apply Keep.incl; (repeat (first | exact Incl.nil | (apply Incl.cons; (focus (with_reducible iterate 40 first | done | exact .here | apply Find.there); done)))); first | done | fail)))) ?_
  intro A' c'
  rw [textE, ← List.append_assoc]
  refine go ?_
  refine ⟨?_, by simp⟩ <;> intros
  exact ret1 ⟨_, _, rfl, rfl⟩
theorem ints_spec (ns : List Int) (hn : ∀ n ∈ ns, -9223372036854775808 ≤ n ∧ n ≤ 9223372036854775807) (hns : ns.length ≤ 100) (l : List UInt8) (A B : Option Addr) (c d : Nat) (hl : l.length ≤ 800000) :
    Trip Try.prog 21 [.slice A l.length c, .slice B ns.length d] [sl Enc.u8 5 A c l, sl (Enc.int .i64) 2 B d ns] (fun v Ps => ∃ A' c', v = .slice A' (l ++ ns.flatMap intE).length c' ∧ Ps = [sl Enc.u8 5 A' c' (l ++ ns.flatMap intE)]) := by
  refine Trip.of (m := 18) Try.func21 rfl rfl rfl ?_
  intro o Rs
  simp only [List.cons_append, List.nil_append, enumFrom]
  refine go ?_
  refine ⟨?_, by simp⟩ <;> intros
  refine loop (σ := Nat × List UInt8 × Option Addr × Nat) (fun x => x.1 ≤ ns.length ∧ x.2.1.length ≤ l.length + 9 * x.1 ∧ x.2.1 ++ (ns.drop x.1).flatMap intE = l ++ ns.flatMap intE) (fun x => [(0, .slice x.2.2.1 x.2.1.length x.2.2.2), (7, .slice B ns.length d), (8, .int .i64 (ns.length : Int)), (9, .int .i64 (x.1 : Int))]) (fun x => sl Enc.u8 5 x.2.2.1 x.2.2.2 x.2.1 :: sl (Enc.int .i64) 2 B d ns :: Rs) (fun x => ns.length - x.1) (0, l, A, c) ⟨by simp, by simp, by simp⟩ ?_
  rintro ⟨k, b, A1, c1⟩ ⟨h1, h2, h3⟩
  simp only at h1 h2 h3 ⊢
  by_cases hk : k < ns.length
  · obtain ⟨n, hg⟩ : ∃ n, ns[k]? = some n := ⟨_, List.getElem?_eq_getElem hk⟩
    have hm := hn n (List.mem_of_getElem? hg)
    have F1 := Int_spec n hm.1 hm.2 b A1 c1 (by omega)
    have hil := intE_len n
    rw [List.drop_eq_getElem_cons hk, (List.getElem?_eq_some_iff.1 hg).2, List.flatMap_cons] at h3
    refine go ?_
    refine ⟨?_, by simp⟩ <;> intros
    rename_i A' c'
    exact rnd (k + 1, b ++ intE n, A', c') ⟨hk, by simp only [List.length_append]; omega, by simp only; rw [List.append_assoc]; exact h3⟩ (by simp only; omega)
  · rw [List.drop_eq_nil_of_le (by omega), List.flatMap_nil, List.append_nil] at h3
    refine go ?_
    refine ⟨?_, by simp⟩ <;> intros
    rw [h3]
    exact ret1 ⟨_, _, rfl, rfl⟩
end Go.Proofs.Ythejchmhjcfdiaa
