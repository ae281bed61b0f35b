/-
  Walks and laws joined: WdPaid.
-/
import Derived.Test.YtflmbhkjhfmeoaaGreatQ18
import Derived.Test.YtflmbhkjhfmeoaaGreatQ10
set_option linter.unusedVariables false
set_option linter.unusedSimpArgs false
namespace Go.Proofs.YtflmbhkjhfmeoaaGreat
open Go.SL
set_option maxHeartbeats 8000000
set_option maxRecDepth 20000
section
variable (t d e : Nat) (m : Lay) (w : Wld) (mt : Tay) (tab : Tab) (S : List Sy) (u : Int)
theorem paid_spec (bw : Bw w) (lm : Laid m w) (l : Lot) (c : Nat) (hc : charI w l.seller = some c) (hb0 : 0 ≤ l.bid ∧ l.bid ≤ 1099511627776) (hb : ∀ x ∈ w.chars, (0 ≤ x.gold ∧ x.gold ≤ 1099511627776) ∧ 0 ≤ x.bank ∧ x.bank ≤ 1099511627776) (hmi : -4611686018427387904 ≤ w.minted ∧ w.minted ≤ 4611686018427387904) :
    Trip Tryz.prog 277 [.pointer (some ⟨t, 0, none⟩), .agg (lotC l).toArray] [ts t d e S u, wl d m w] (fun v Ps => v = .tuple #[] ∧ Ps = [ts t d e S u, wl d m (paidW w l)]) := by
  refine Trip.of (m := 80) Tryz.func277 rfl rfl rfl ?_
  intro o Rs
  simp only [List.cons_append, List.nil_append, enumFrom]
  haveI : Plan 5 [20, 23, 27, 29] [0, 1, 2, 3, 4, 5, 6, 7, 8, 9, 10, 11, 12, 13, 14, 15] := ⟨⟩
  have zc : w.chars.length = (w.chars.zip m.dn).length := by rw [List.length_zip, lm.1, Nat.min_self]
  have b1 := bw.nc
  have F1 := Char_spec d m w l.seller (by omega) lm (wl d m w)
  obtain ⟨x, hx, _⟩ := find_get hc
  have hcl := find_lt hc
  obtain ⟨⟨A0, c0⟩, hz, _⟩ := zip_get hx lm.1
  obtain ⟨⟨g1, g2⟩, g3, g4⟩ := hb x (List.mem_of_getElem? hx)
  unfold paidW
  rw [hc] at F1 ⊢
  simp only [iv, getD_of hx] at F1 ⊢
  clear hc hb
  unfold maxGold
  by_cases hf : l.bid / 20 < 1
  · rw [if_pos hf]
    by_cases h1 : x.gold + (l.bid - 1) ≤ 1099511627776
    · rw [if_pos h1, setC_eq hx]
      have e0 : (1 : Int) + 0 = 1 := rfl
      refine goW ?_
      (repeat' (first | exact trivial | apply And.intro | intro _))
      all_goals first
        | (exfalso; first | contradiction | omega)
        | exact ret0 ⟨rfl, rfl⟩ (hh := by first | (exact ent_) | (simp only [Int.add_zero, Int.reduceAdd]; (exact ent_)))
    · rw [if_neg h1]
      by_cases h2 : l.bid - 1 < 1099511627776 - x.bank
      · rw [if_pos h2, setC_eq hx]
        refine goW ?_
        (repeat' (first | exact trivial | apply And.intro | intro _))
        all_goals first
          | (exfalso; first | contradiction | omega)
          | exact ret0 ⟨rfl, rfl⟩ (hh := by first | (exact ent_) | (simp only [Int.add_zero, Int.reduceAdd]; (exact ent_)))
      · rw [if_neg h2, setC_eq hx]
        refine goW ?_
        (repeat' (first | exact trivial | apply And.intro | intro _))
        all_goals first
          | (exfalso; first | contradiction | omega)
          | exact ret0 ⟨rfl, rfl⟩ (hh := by first | (exact ent_) | (simp only [Int.add_zero, Int.reduceAdd]; (exact ent_)))
  · rw [if_neg hf]
    by_cases h1 : x.gold + (l.bid - l.bid / 20) ≤ 1099511627776
    · rw [if_pos h1, setC_eq hx]
      refine goW ?_
      (repeat' (first | exact trivial | apply And.intro | intro _))
      all_goals first
        | (exfalso; first | contradiction | omega)
        | exact ret0 ⟨rfl, rfl⟩ (hh := by first | (exact ent_) | (simp only [Int.add_zero, Int.reduceAdd]; (exact ent_)))
    · rw [if_neg h1]
      by_cases h2 : l.bid - l.bid / 20 < 1099511627776 - x.bank
      · rw [if_pos h2, setC_eq hx]
        refine goW ?_
        (repeat' (first | exact trivial | apply And.intro | intro _))
        all_goals first
          | (exfalso; first | contradiction | omega)
          | exact ret0 ⟨rfl, rfl⟩ (hh := by first | (exact ent_) | (simp only [Int.add_zero, Int.reduceAdd]; (exact ent_)))
      · rw [if_neg h2, setC_eq hx]
        refine goW ?_
        (repeat' (first | exact trivial | apply And.intro | intro _))
        all_goals first
          | (exfalso; first | contradiction | omega)
          | exact ret0 ⟨rfl, rfl⟩ (hh := by first | (exact ent_) | (simp only [Int.add_zero, Int.reduceAdd]; (exact ent_)))
end
end Go.Proofs.YtflmbhkjhfmeoaaGreat
