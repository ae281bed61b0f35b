/-
  Lists of numbers, written and read.
-/
import Derived.Test.YthejchmhjcfdiaaCdRead2
namespace Go.Proofs.Ythejchmhjcfdiaa
open Go.SL
set_option linter.unusedVariables false
set_option linter.unusedSimpArgs false
set_option maxHeartbeats 4000000
def listE (ns : List Int) : List UInt8 := lenE 8 ns.length ++ ns.flatMap intE
theorem list_spec (ns : List Int) (hn : ∀ n ∈ ns, -9223372036854775808 ≤ n ∧ n ≤ 9223372036854775807) (hns : ns.length ≤ 1000) (l : List UInt8) (A B : Option Addr) (c d : Nat) (R : HProp) (hR : Reads R (Enc.int .i64) B ns) (hl : l.length ≤ 800000) :
    Trip Try.prog 51 [.slice A l.length c, .slice B ns.length d] [sl Enc.u8 5 A c l, R] (fun v Ps => ∃ A' c', v = .slice A' (l ++ listE ns).length c' ∧ Ps = [sl Enc.u8 5 A' c' (l ++ listE ns), R]) := by
  refine Trip.of (m := 23) Try.func51 rfl rfl rfl ?_
  intro o Rs
  simp only [List.cons_append, List.nil_append, enumFrom]
  have F1 := Len_spec ns.length (by omega) l A c (by omega)
  have hll := lenE_len 8 ns.length
  refine go ?_
  refine ⟨?_, by simp⟩ <;> intros
  rename_i A0 c0
  clear F1
  refine loop (σ := Nat × List UInt8 × Option Addr × Nat) (fun x => x.1 ≤ ns.length ∧ x.2.1.length ≤ l.length + 9 + 9 * x.1 ∧ x.2.1 ++ (ns.drop x.1).flatMap intE = l ++ listE ns) (fun x => [(0, .slice x.2.2.1 x.2.1.length x.2.2.2), (12, .slice B ns.length d), (13, .int .i64 (ns.length : Int)), (14, .int .i64 (x.1 : Int))]) (fun x => sl Enc.u8 5 x.2.2.1 x.2.2.2 x.2.1 :: R :: Rs) (fun x => ns.length - x.1) (0, l ++ lenE 8 ns.length, A0, c0) ⟨by simp, by simp only [List.length_append]; omega, by simp [listE]⟩ ?_
  rintro ⟨k, b, A1, c1⟩ ⟨h1, h2, h3⟩
  simp only at h1 h2 h3 ⊢
  by_cases hk : k < ns.length
  · obtain ⟨n, hg⟩ : ∃ n, ns[k]? = some n := ⟨_, List.getElem?_eq_getElem hk⟩
    have hm := hn n (List.mem_of_getElem? hg)
    have F1 := Int_spec n hm.1 hm.2 b A1 c1 (by omega)
    have hil := intE_len n
    rw [List.drop_eq_getElem_cons hk, (List.getElem?_eq_some_iff.1 hg).2, List.flatMap_cons] at h3
    refine go ?_
    refine ⟨?_, by simp⟩ <;> intros
    rename_i A' c'
    exact rnd (k + 1, b ++ intE n, A', c') ⟨hk, by simp only [List.length_append]; omega, by simp only; rw [List.append_assoc]; exact h3⟩ (by simp only; omega)
  · rw [List.drop_eq_nil_of_le (by omega), List.flatMap_nil, List.append_nil] at h3
    refine go ?_
    refine ⟨?_, by simp⟩ <;> intros
    rw [h3]
    exact ret1 ⟨_, _, rfl, rfl⟩
def numsD : Nat → List UInt8 → Bool → List Int × List UInt8 × Bool
  | 0, b, bad => ([], b, bad)
  | k + 1, b, bad => ((intD b bad).1 :: (numsD k (intD b bad).2.1 (intD b bad).2.2).1, (numsD k (intD b bad).2.1 (intD b bad).2.2).2)
def listD (b : List UInt8) (bad : Bool) : List Int × List UInt8 × Bool := numsD (cntD b bad).1 (cntD b bad).2.1 (cntD b bad).2.2
theorem numsD_ints : ∀ (ns : List Int) (r : List UInt8) (bad : Bool), (∀ n ∈ ns, -9223372036854775808 ≤ n ∧ n ≤ 9223372036854775807) → numsD ns.length (ns.flatMap intE ++ r) bad = (ns, r, bad)
  | [], r, bad, _ => rfl
  | n :: ns, r, bad, h => by
    have hn := h n List.mem_cons_self
    rw [List.length_cons, numsD, List.flatMap_cons, List.append_assoc, intD_intE n hn.1 hn.2, numsD_ints ns r bad (fun x hx => h x (List.mem_cons_of_mem _ hx))]
theorem intE_pos (n : Int) : 1 ≤ (intE n).length := by
  rw [intE, lenE]; split <;> simp
theorem ints_len (ns : List Int) : ns.length ≤ (ns.flatMap intE).length := by
  induction ns with
  | nil => simp
  | cons n ns ih => have := intE_pos n; simp only [List.flatMap_cons, List.length_append, List.length_cons]; omega
theorem listD_listE (ns : List Int) (hn : ∀ n ∈ ns, -9223372036854775808 ≤ n ∧ n ≤ 9223372036854775807) (hl : ns.length ≤ 1000000) (r : List UInt8) : listD (listE ns ++ r) false = (ns, r, false) := by
  have h := cntD_lenE ns.length (by omega) (ns.flatMap intE ++ r) (by have := ints_len ns; simp only [List.length_append]; omega)
  rw [listD, listE, List.append_assoc, h, numsD_ints ns r false hn]
theorem intD_len (b : List UInt8) (bad : Bool) : (intD b bad).2.1.length ≤ b.length := lenD_len 9 0 0 b bad
theorem numbers_spec (d : Nat) (A : Option Addr) (c : Nat) (b : List UInt8) (bad : Bool) (R : HProp) (hR : Reads R Enc.u8 A b) (hc : b.length ≤ c) (hbl : b.length ≤ 1000000) :
    Trip Try.prog 52 [.pointer (some ⟨d, 0, none⟩)] [rdr d A c b bad, R] (fun v Ps => ∃ A' c' B m, Reads R Enc.u8 A' (listD b bad).2.1 ∧ (listD b bad).2.1.length ≤ c' ∧ v = .slice B (listD b bad).1.length m ∧ Ps = [rdr d A' c' (listD b bad).2.1 (listD b bad).2.2, R, sl (Enc.int .i64) 3 B m (listD b bad).1]) := by
  refine Trip.of (m := 15) Try.func52 rfl rfl rfl ?_
  intro o Rs
  simp only [List.cons_append, List.nil_append, enumFrom]
  have L1 := Count_spec d A c b bad R hR hc hbl
  have hle := cntD_le b bad
  have hln := cntD_len b bad
  simp only [listD]
  generalize cntD b bad = q at L1 hle hln ⊢
  obtain ⟨n, rr, bd⟩ := q
  simp only at L1 hle hln ⊢
  refine go ?_
  refine ⟨?_, by simp⟩ <;> intros
  refine W.callr (by exact rfl) (by (focus ((repeat (first | exact Ent.done | with_reducible exact Ent.same | (apply Ent.take; (first | (focus (with_reducible iterate 40 first | done | exact .here | apply Find.there); done) | (focus (iterate 40 first | done | exact .here | apply Find.there); done))) | (apply Ent.emp (sl_emp _ _)) | apply Ent.drop)); first | done | fail))) rfl (by (first | exact Keep.nil | (focus ((repeat (first | exact Incl.nil | (apply Incl.cons; (focus (with_reducible iterate 40 first | done | exact .here | apply Find.there); done)))); first | done | fail)) | exact Keep.free rfl | (focus (apply Keep.incl; (repeat (first | exact Incl.nil | (apply Incl.cons; (focus (with_reducible iterate 40 first | done | exact .here | apply Find.there); done)))); first | done | fail)))) (L1) ?_
  rintro _ _ ⟨A', c', hR', hc', rfl, rfl⟩
  simp only [List.cons_append, List.nil_append]
  refine go ?_
  refine ⟨?_, by simp⟩ <;> intros
  refine loop (σ := (Nat × List Int) × (List UInt8 × Bool) × (Option Addr × Nat) × (Option Addr × Nat)) (fun x => x.1.1 = x.1.2.length ∧ x.1.1 ≤ n ∧ x.2.1.1.length ≤ 1000000 ∧ Reads R Enc.u8 x.2.2.1.1 x.2.1.1 ∧ x.2.1.1.length ≤ x.2.2.1.2 ∧ (x.1.2 ++ (numsD (n - x.1.1) x.2.1.1 x.2.1.2).1, (numsD (n - x.1.1) x.2.1.1 x.2.1.2).2) = numsD n rr bd)
    (fun x => [(0, .pointer (some ⟨d, 0, none⟩)), (3, .slice x.2.2.2.1 x.1.2.length x.2.2.2.2), (5, .int .i64 (n : Int)), (6, .int .i64 (x.1.1 : Int))]) (fun x => rdr d x.2.2.1.1 x.2.2.1.2 x.2.1.1 x.2.1.2 :: R :: sl (Enc.int .i64) 3 x.2.2.2.1 x.2.2.2.2 x.1.2 :: Rs) (fun x => n - x.1.1) ((0, []), (rr, bd), (A', c'), (none, 0)) ⟨rfl, Nat.zero_le _, by simp only; omega, hR', hc', by simp⟩ ?_
  rintro ⟨⟨k, acc⟩, ⟨b1, bd1⟩, ⟨A1, c1⟩, ⟨B1, m1⟩⟩ ⟨h1, h2, h3, h4, h5, h6⟩
  simp only at h1 h2 h3 h4 h5 h6 ⊢
  rw [← h6]
  by_cases hk : k < n
  · have L2 := RInt_spec d A1 c1 b1 bd1 R h4 h5
    have hil := intD_len b1 bd1
    rw [show n - k = (n - (k + 1)) + 1 from by omega, numsD]
    generalize intD b1 bd1 = q at L2 hil ⊢
    obtain ⟨z, b2, bd2⟩ := q
    simp only at L2 hil ⊢
    refine go ?_
    refine ⟨?_, by simp⟩ <;> intros
    refine W.callr (by exact rfl) (by (focus ((repeat (first | exact Ent.done | with_reducible exact Ent.same | (apply Ent.take; (first | (focus (with_reducible iterate 40 first | done | exact .here | apply Find.there); done) | (focus (iterate 40 first | done | exact .here | apply Find.there); done))) | (apply Ent.emp (sl_emp _ _)) | apply Ent.drop)); first | done | fail))) rfl (by (first | exact Keep.nil | (focus ((repeat (first | exact Incl.nil | (apply Incl.cons; (focus (with_reducible iterate 40 first | done | exact .here | apply Find.there); done)))); first | done | fail)) | exact Keep.free rfl | (focus (apply Keep.incl; (repeat (first | exact Incl.nil | (apply Incl.cons; (focus (with_reducible iterate 40 first | done | exact .here | apply Find.there); done)))); first | done | fail)))) (L2) ?_
    rintro _ _ ⟨A2, c2, hR2, hc2, rfl, rfl⟩
    simp only [List.cons_append, List.nil_append]
    refine go ?_
    refine ⟨?_, by simp⟩ <;> intros
    rename_i A3 c3
    exact rnd ((k + 1, acc ++ [z]), (b2, bd2), (A2, c2), (A3, c3)) ⟨by simp only [List.length_append, List.length_singleton]; omega, by simp only; omega, by simp only; omega, hR2, hc2, by simp⟩ (by simp only; omega)
  · rw [show n - k = 0 from by omega, numsD, List.append_nil]
    refine go ?_
    refine ⟨?_, by simp⟩ <;> intros
    exact ret1 ⟨A1, c1, B1, m1, h4, h5, rfl, rfl⟩
end Go.Proofs.Ythejchmhjcfdiaa
