/-
  Walks and laws joined: WdSettle3.
-/
import Derived.Test.YtflmbhkjhfmeoaaGreatQ35
set_option linter.unusedVariables false
set_option linter.unusedSimpArgs false
namespace Go.Proofs.YtflmbhkjhfmeoaaGreat
open Go.SL
set_option maxHeartbeats 8000000
set_option maxRecDepth 20000
section
variable (t d e : Nat) (m : Lay) (w : Wld) (mt : Tay) (tab : Tab) (S : List Sy) (u : Int)
theorem settle_bidB (bw : Bw w) (lm : Laid m w) (l : Lot) (hb0 : 0 < l.bid) (hbb : 0 ≤ l.bid ∧ l.bid ≤ 1099511627776) (cs : Nat) (hse : charI w l.seller = some cs) (hb : ∀ x ∈ w.chars, (0 ≤ x.gold ∧ x.gold ≤ 1099511627776) ∧ 0 ≤ x.bank ∧ x.bank ≤ 1099511627776) (hmi : -4611686018427387904 ≤ w.minted ∧ w.minted ≤ 4611686018427387904) (hld : ¬ loadN w l.bidder < 10) (hS : S.length ≤ 200000) :
    Trip Tryz.prog 238 [.pointer (some ⟨t, 0, none⟩), .agg (lotC l).toArray] [ts t d e S u, wl d m w] (fun v Ps => v = .bool (settleA w l).isSome ∧ Ps = [ts t d e (S ++ ((settleA w l).getD (w, [])).2) u, wl d m ((settleA w l).getD (w, [])).1]) := by
  refine Trip.of (m := 104) Tryz.func238 rfl rfl rfl ?_
  intro o Rs
  simp only [List.cons_append, List.nil_append, enumFrom]
  haveI : Plan 4 [19, 25, 27] [0, 1, 2, 3, 4, 6, 7, 8, 9, 10, 11, 5, 12, 13, 14] := ⟨⟩
  have zc : w.chars.length = (w.chars.zip m.dn).length := by rw [List.length_zip, lm.1, Nat.min_self]
  have b1 := bw.nc
  have b5 := bw.nt
  unfold settleA
  rw [if_pos hb0]
  simp only [hb0, if_true, true_and]
  have F1 := Char_spec d m w l.bidder (by omega) lm (wl d m w)
  have F2 := Thing_spec d m w l.thing (by omega) (wl d m w)
  cases hch : charI w l.bidder with
  | none =>
    rw [hch] at F1
    simp only [iv, Option.isSome_some, Option.getD_some, List.append_nil] at F1 ⊢
    clear hch
    refine goW ?_
    (repeat' (first | exact trivial | apply And.intro | intro _))
    all_goals first
      | (exfalso; first | contradiction | omega)
      | exact ret1 ⟨rfl, rfl⟩
      | exact ret1 ⟨rfl, by simp⟩
  | some c =>
    obtain ⟨x, hx, _⟩ := find_get hch
    have hcl := find_lt hch
    obtain ⟨⟨A0, c0⟩, hz, _⟩ := zip_get hx lm.1
    rw [hch] at F1
    clear hch
    cases hth : thingI w l.thing with
    | none =>
      rw [hth] at F2
      simp only [iv, Option.isSome_some, Option.getD_some, List.append_nil] at F1 F2 ⊢
      clear hth
      refine goW ?_
      (repeat' (first | exact trivial | apply And.intro | intro _))
      all_goals first
        | (exfalso; first | contradiction | omega)
        | exact ret1 ⟨rfl, rfl⟩
        | exact ret1 ⟨rfl, by simp⟩
    | some k =>
      obtain ⟨z, hz2, _⟩ := find_get hth
      have hkl := find_lt hth
      rw [hth] at F2
      simp only [iv, getD_of hx] at F1 F2 ⊢
      clear hth
      have F3 := load_spec t d e m w S u bw l.bidder
      have F4 := Here_spec d m w x.room (by omega) (wl d m w)
      have hhl : (ints (hereL w x.room)).length = (hereL w x.room).length := ints_len _
      rw [if_neg hld]
      by_cases hhr : (hereL w x.room).length < 30
      · rw [if_pos hhr]
        simp only [Option.isSome_some]
        have F5 := put_spec t d e m w S u bw k z hz2 1 x.room []
        have bw1 := bw_put bw k 1 x.room []
        have lm1 : Laid m (putW w k 1 x.room []) := ⟨lm.1, lm.2⟩
        have hse1 : charI (putW w k 1 x.room []) l.seller = some cs := hse
        have hb1 : ∀ q ∈ (putW w k 1 x.room []).chars, (0 ≤ q.gold ∧ q.gold ≤ 1099511627776) ∧ 0 ≤ q.bank ∧ q.bank ≤ 1099511627776 := hb
        have hmi1 : -4611686018427387904 ≤ (putW w k 1 x.room []).minted ∧ (putW w k 1 x.room []).minted ≤ 4611686018427387904 := hmi
        clear hse hb hmi
        generalize putW w k 1 x.room [] = w1 at *
        have F6 := paid_spec t d e m w1 S u bw1 lm1 l cs hse1 hbb hb1 hmi1
        have bw2 := bw_paid bw1 l
        have lm2 := laid_paid lm1 l
        clear hb1 hse1
        generalize paidW w1 l = w2 at *
        have F7 := on_spec t d e m w2 S u bw2 lm2 l.seller
        cases hs : onI w2 l.seller with
        | none =>
          have F8 := on_spec t d e m w2 S u bw2 lm2 l.bidder
          have F9 := say_spec t d e S u l.bidder [84, 104, 101, 32, 108, 111, 116, 32, 105, 115, 32, 121, 111, 117, 114, 115, 46] (by omega)
          rw [hs] at F7
          clear hs
          cases hbo : onI w2 l.bidder with
          | none =>
            rw [hbo] at F8
            simp only [iv, Option.isSome_none, Bool.false_eq_true, if_false, List.nil_append, List.append_nil, Option.getD_some] at F7 F8 ⊢
            clear hbo
            refine goW ?_
            (repeat' (first | exact trivial | apply And.intro | intro _))
            all_goals first
              | (exfalso; first | contradiction | omega)
              | exact ret1 ⟨rfl, rfl⟩
              | exact ret1 ⟨rfl, by simp⟩
          | some o2 =>
            rw [hbo] at F8
            simp only [iv, Option.isSome_none, Option.isSome_some, Bool.false_eq_true, if_false, if_true, List.nil_append, List.append_nil, Option.getD_some] at F7 F8 ⊢
            clear hbo
            refine goW ?_
            (repeat' (first | exact trivial | apply And.intro | intro _))
            all_goals first
              | (exfalso; first | contradiction | omega)
              | exact ret1 ⟨rfl, rfl⟩
              | exact ret1 ⟨rfl, by simp⟩
        | some o1 =>
          have F8 := say_spec t d e S u l.seller [89, 111, 117, 114, 32, 108, 111, 116, 32, 105, 115, 32, 115, 111, 108, 100, 46] (by omega)
          have F9 := on_spec t d e m w2 (S ++ [(l.seller, [89, 111, 117, 114, 32, 108, 111, 116, 32, 105, 115, 32, 115, 111, 108, 100, 46])]) u bw2 lm2 l.bidder
          have F10 := say_spec t d e (S ++ [(l.seller, [89, 111, 117, 114, 32, 108, 111, 116, 32, 105, 115, 32, 115, 111, 108, 100, 46])]) u l.bidder [84, 104, 101, 32, 108, 111, 116, 32, 105, 115, 32, 121, 111, 117, 114, 115, 46] (by rw [List.length_append]; simp only [List.length_cons, List.length_nil]; omega)
          rw [hs] at F7
          clear hs
          cases hbo : onI w2 l.bidder with
          | none =>
            rw [hbo] at F9
            simp only [iv, Option.isSome_none, Option.isSome_some, Bool.false_eq_true, if_false, if_true, List.nil_append, List.append_nil, Option.getD_some] at F7 F9 ⊢
            clear hbo
            refine goW ?_
            (repeat' (first | exact trivial | apply And.intro | intro _))
            all_goals first
              | (exfalso; first | contradiction | omega)
              | exact ret1 ⟨rfl, rfl⟩
              | exact ret1 ⟨rfl, by simp⟩
          | some o2 =>
            rw [hbo] at F9
            simp only [iv, Option.isSome_none, Option.isSome_some, Bool.false_eq_true, if_false, if_true, Option.getD_some] at F7 F9 ⊢
            clear hbo
            rw [← List.append_assoc]
            refine goW ?_
            (repeat' (first | exact trivial | apply And.intro | intro _))
            all_goals first
              | (exfalso; first | contradiction | omega)
              | exact ret1 ⟨rfl, rfl⟩
              | exact ret1 ⟨rfl, by simp⟩
      · rw [if_neg hhr]
        simp only [Option.isSome_none, Option.getD_none, List.append_nil]
        refine goW ?_
        (repeat' (first | exact trivial | apply And.intro | intro _))
        all_goals first
          | (exfalso; first | contradiction | omega)
          | exact ret1 ⟨rfl, rfl⟩
          | exact ret1 ⟨rfl, by simp⟩
end
end Go.Proofs.YtflmbhkjhfmeoaaGreat
