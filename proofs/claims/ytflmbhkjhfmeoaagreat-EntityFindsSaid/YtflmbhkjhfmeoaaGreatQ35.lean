/-
  Walks and laws joined: WdSettle.
-/
import Derived.Test.YtflmbhkjhfmeoaaGreatQ34
set_option linter.unusedVariables false
set_option linter.unusedSimpArgs false
namespace Go.Proofs.YtflmbhkjhfmeoaaGreat
open Go.SL
set_option maxHeartbeats 8000000
set_option maxRecDepth 20000
theorem paid_shape (w : Wld) (l : Lot) : paidW w l = w ∨ ∃ (d : Nat) (x y : Chr) (mi : Int), w.chars[d]? = some x ∧ paidW w l = { w with chars := w.chars.set d y, minted := mi } ∧ y.name = x.name := by
  unfold paidW
  split
  · exact .inl rfl
  · rename_i d hd
    obtain ⟨x, hx, _⟩ := find_get hd
    right
    simp only [getD_of hx]
    generalize (if l.bid / 20 < 1 then 1 else l.bid / 20) = fee
    split
    · exact ⟨d, x, { x with gold := x.gold + (l.bid - fee) }, w.minted - fee, hx, by rw [setC_eq hx], rfl⟩
    · generalize (if l.bid - fee < maxGold - x.bank then l.bid - fee else maxGold - x.bank) = room
      exact ⟨d, x, { x with bank := x.bank + room }, w.minted - (fee + (l.bid - fee - room)), hx, by rw [setC_eq hx], rfl⟩
theorem bw_paid {w : Wld} (bw : Bw w) (l : Lot) : Bw (paidW w l) := by
  rcases paid_shape w l with h | ⟨d, x, y, mi, hx, h, hn⟩
  · rw [h]; exact bw
  · have h2 := bw_setc bw hx y hn
    rw [h]
    exact ⟨h2.nc, h2.nt, h2.nm, h2.nh, h2.nl, h2.ni, h2.gs, h2.cn⟩
theorem laid_paid {m : Lay} {w : Wld} (lm : Laid m w) (l : Lot) : Laid m (paidW w l) := by
  rcases paid_shape w l with h | ⟨d, x, y, mi, hx, h, hn⟩
  · rw [h]; exact lm
  · have h2 := laid_setc lm d y
    rw [h]
    exact ⟨h2.1, h2.2⟩
section
variable (t d e : Nat) (m : Lay) (w : Wld) (mt : Tay) (tab : Tab) (S : List Sy) (u : Int)
theorem settle_none (bw : Bw w) (lm : Laid m w) (l : Lot) (hb0 : l.bid = 0) (hS : S.length ≤ 200000) :
    Trip Tryz.prog 238 [.pointer (some ⟨t, 0, none⟩), .agg (lotC l).toArray] [ts t d e S u, wl d m w] (fun v Ps => v = .bool (settleA w l).isSome ∧ Ps = [ts t d e (S ++ ((settleA w l).getD (w, [])).2) u, wl d m ((settleA w l).getD (w, [])).1]) := by
  refine Trip.of (m := 104) Tryz.func238 rfl rfl rfl ?_
  intro o Rs
  simp only [List.cons_append, List.nil_append, enumFrom]
  haveI : Plan 4 [19, 25, 27] [0, 1, 2, 3, 4, 6, 7, 8, 9, 10, 11, 5, 12, 13, 14] := ⟨⟩
  have zc : w.chars.length = (w.chars.zip m.dn).length := by rw [List.length_zip, lm.1, Nat.min_self]
  have b1 := bw.nc
  have b5 := bw.nt
  have hnb : ¬ 0 < l.bid := by omega
  unfold settleA
  rw [if_neg hnb]
  simp only [hnb, if_false, false_and]
  have F1 := Char_spec d m w l.seller (by omega) lm (wl d m w)
  have F2 := Thing_spec d m w l.thing (by omega) (wl d m w)
  cases hch : charI w l.seller with
  | none =>
    rw [hch] at F1
    simp only [iv, Option.isSome_some, Option.getD_some, List.append_nil] at F1 ⊢
    clear hch
    refine goW ?_
    (repeat' (first | exact trivial | apply And.intro | intro _))
    all_goals first
      | (exfalso; first | contradiction | omega)
      | exact ret1 ⟨rfl, rfl⟩
      | exact ret1 ⟨rfl, by simp⟩
  | some c =>
    obtain ⟨x, hx, _⟩ := find_get hch
    have hcl := find_lt hch
    obtain ⟨⟨A0, c0⟩, hz, _⟩ := zip_get hx lm.1
    rw [hch] at F1
    clear hch
    cases hth : thingI w l.thing with
    | none =>
      rw [hth] at F2
      simp only [iv, Option.isSome_some, Option.getD_some, List.append_nil] at F1 F2 ⊢
      clear hth
      refine goW ?_
      (repeat' (first | exact trivial | apply And.intro | intro _))
      all_goals first
        | (exfalso; first | contradiction | omega)
        | exact ret1 ⟨rfl, rfl⟩
        | exact ret1 ⟨rfl, by simp⟩
    | some k =>
      obtain ⟨z, hz2, _⟩ := find_get hth
      have hkl := find_lt hth
      rw [hth] at F2
      simp only [iv, getD_of hx] at F1 F2 ⊢
      clear hth
      have F3 := load_spec t d e m w S u bw l.seller
      have F4 := Here_spec d m w x.room (by omega) (wl d m w)
      have hhl : (ints (hereL w x.room)).length = (hereL w x.room).length := ints_len _
      by_cases hld : loadN w l.seller < 10
      · rw [if_pos hld]
        simp only [Option.isSome_some]
        have F5 := put_spec t d e m w S u bw k z hz2 2 0 l.seller
        have bw1 := bw_put bw k 2 0 l.seller
        have lm1 : Laid m (putW w k 2 0 l.seller) := ⟨lm.1, lm.2⟩
        generalize putW w k 2 0 l.seller = w1 at *
        have F6 := on_spec t d e m w1 S u bw1 lm1 l.seller
        have F7 := say_spec t d e S u l.seller [89, 111, 117, 114, 32, 108, 111, 116, 32, 105, 115, 32, 110, 111, 116, 32, 115, 111, 108, 100, 46] (by omega)
        cases hon : onI w1 l.seller with
        | none =>
          rw [hon] at F6
          simp only [iv, Option.isSome_none, Bool.false_eq_true, if_false, List.nil_append, List.append_nil, Option.getD_some] at F6 ⊢
          clear hon
          refine goW ?_
          (repeat' (first | exact trivial | apply And.intro | intro _))
          all_goals first
            | (exfalso; first | contradiction | omega)
            | exact ret1 ⟨rfl, rfl⟩
            | exact ret1 ⟨rfl, by simp⟩
        | some o1 =>
          rw [hon] at F6
          simp only [iv, Option.isSome_some, if_true, List.append_nil, Option.getD_some] at F6 ⊢
          clear hon
          refine goW ?_
          (repeat' (first | exact trivial | apply And.intro | intro _))
          all_goals first
            | (exfalso; first | contradiction | omega)
            | exact ret1 ⟨rfl, rfl⟩
            | exact ret1 ⟨rfl, by simp⟩
      · rw [if_neg hld]
        by_cases hhr : (hereL w x.room).length < 30
        · rw [if_pos hhr]
          simp only [Option.isSome_some]
          have F5 := put_spec t d e m w S u bw k z hz2 1 x.room []
          have bw1 := bw_put bw k 1 x.room []
          have lm1 : Laid m (putW w k 1 x.room []) := ⟨lm.1, lm.2⟩
          generalize putW w k 1 x.room [] = w1 at *
          have F6 := on_spec t d e m w1 S u bw1 lm1 l.seller
          have F7 := say_spec t d e S u l.seller [89, 111, 117, 114, 32, 108, 111, 116, 32, 105, 115, 32, 110, 111, 116, 32, 115, 111, 108, 100, 46] (by omega)
          cases hon : onI w1 l.seller with
          | none =>
            rw [hon] at F6
            simp only [iv, Option.isSome_none, Bool.false_eq_true, if_false, List.nil_append, List.append_nil, Option.getD_some] at F6 ⊢
            clear hon
            refine goW ?_
            (repeat' (first | exact trivial | apply And.intro | intro _))
            all_goals first
              | (exfalso; first | contradiction | omega)
              | exact ret1 ⟨rfl, rfl⟩
              | exact ret1 ⟨rfl, by simp⟩
          | some o1 =>
            rw [hon] at F6
            simp only [iv, Option.isSome_some, if_true, List.append_nil, Option.getD_some] at F6 ⊢
            clear hon
            refine goW ?_
            (repeat' (first | exact trivial | apply And.intro | intro _))
            all_goals first
              | (exfalso; first | contradiction | omega)
              | exact ret1 ⟨rfl, rfl⟩
              | exact ret1 ⟨rfl, by simp⟩
        · rw [if_neg hhr]
          simp only [Option.isSome_none, Option.getD_none, List.append_nil]
          refine goW ?_
          (repeat' (first | exact trivial | apply And.intro | intro _))
          all_goals first
            | (exfalso; first | contradiction | omega)
            | exact ret1 ⟨rfl, rfl⟩
            | exact ret1 ⟨rfl, by simp⟩
end
end Go.Proofs.YtflmbhkjhfmeoaaGreat
