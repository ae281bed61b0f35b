/-
  Walks and laws joined: WdTrade.
-/
import Derived.Test.YtflmbhkjhfmeoaaGreatQ38
import Derived.Test.YtflmbhkjhfmeoaaGreatQ43
import Derived.Test.YtflmbhkjhfmeoaaGreatQ44
import Derived.Test.YtflmbhkjhfmeoaaGreatQ46
import Derived.Test.YtflmbhkjhfmeoaaGreatQ39
import Derived.Test.YtflmbhkjhfmeoaaGreatQ40
import Derived.Test.YtflmbhkjhfmeoaaGreatQ47
set_option linter.unusedVariables false
set_option linter.unusedSimpArgs false
namespace Go.Proofs.YtflmbhkjhfmeoaaGreat
open Go.SL
set_option maxHeartbeats 8000000
set_option maxRecDepth 20000
section
variable (t d e : Nat) (m : Lay) (w : Wld) (mt : Tay) (tab : Tab) (S : List Sy) (u : Int)
theorem money_none {w : Wld} (R : HProp) (name cmd a b : Tx) (words : Nat) (hm : moneyW.contains cmd = false) :
    Trip Tryz.prog 158 [.pointer (some ⟨t, 0, none⟩), str name, str cmd, str a, str b, .int .i64 (words : Int)] [ts t d e S u, wl d m w, R] (fun v Ps => v = .bool false ∧ Ps = [ts t d e S u, wl d m w, R]) := by
  rw [List.contains_eq_mem, decide_eq_false_iff_not] at hm
  simp only [moneyW, List.mem_cons, List.not_mem_nil, or_false, not_or] at hm
  obtain ⟨h1, h2, h3, h4, h5, h6, h7, h8, h9, h10, h11, h12⟩ := hm
  refine Trip.of (m := 108) Tryz.func158 rfl rfl rfl ?_
  intro o Rs
  simp only [List.cons_append, List.nil_append, enumFrom]
  haveI : Plan 14 [50, 53] [0, 1, 2, 3, 4, 5, 6, 7, 8, 9, 10, 11, 12, 13, 14, 15, 16, 17, 18] := ⟨⟩
  refine go ?_
  (repeat' (first | exact trivial | apply And.intro | intro _))
  all_goals first
    | (exfalso; first | exact h1 (by assumption) | exact h2 (by assumption) | exact h3 (by assumption) | exact h4 (by assumption) | exact h5 (by assumption) | exact h6 (by assumption) | exact h7 (by assumption) | exact h8 (by assumption) | exact h9 (by assumption) | exact h10 (by assumption) | exact h11 (by assumption) | exact h12 (by assumption))
    | exact ret1 (v := .bool false) (Ps := [ts t d e S u, wl d m w, R]) ⟨rfl, rfl⟩
theorem money_spec {s K : Nat} (g : Good tab) (h : Iv tab s K w) (hs : s ≤ 1000) (hK : K ≤ 90000) (lm : Laid m w) (lt : TLaid mt tab) (R : HProp) [hr : RT R e mt tab] (name cmd a b : Tx) (words c : Nat) (hmy : moneyW.contains cmd = true) (hwl : words ≤ 100000) (hc : onI w name = some c) (hn : name.length ≤ 1000) (ha : a.length ≤ 1000) (hb : b.length ≤ 1000) (hS : S.length ≤ 100000) :
    Trip Tryz.prog 158 [.pointer (some ⟨t, 0, none⟩), str name, str cmd, str a, str b, .int .i64 (words : Int)] [ts t d e S u, wl d m w, R]
      (fun v Ps => ∃ m', v = .bool true ∧ Ps = [ts t d e (S ++ (moneyA tab w name cmd a b words c).2) u, wl d m' (moneyA tab w name cmd a b words c).1, R]) := by
  refine Trip.of (m := 108) Tryz.func158 rfl rfl rfl ?_
  intro o Rs
  simp only [List.cons_append, List.nil_append, enumFrom]
  haveI : Plan 14 [50, 53] [0, 1, 2, 3, 4, 5, 6, 7, 8, 9, 10, 11, 12, 13, 14, 15, 16, 17, 18] := ⟨⟩
  have bw := iv_bw h hs hK
  have bt := bt_of g
  have ok := okt_of g
  have qo := qok_of g
  have lo := lok_of h hK
  have hnx : 0 ≤ w.next ∧ w.next ≤ 4611686018427387904 := by have := h.w0.nx; omega
  have hmi : -4611686018427387904 ≤ w.minted ∧ w.minted ≤ 4611686018427387904 := by have := h.w0.mi; omega
  have hnow : -4611686018427387904 ≤ w.now ∧ w.now ≤ 4611686018427387904 := by have := h.w0.nw; omega
  have hg : ∀ x ∈ w.chars, 0 ≤ x.gold ∧ x.gold ≤ 1099511627776 := fun x hx => (h.w0.ch x hx).go
  have hg2 : ∀ x ∈ w.chars, 0 ≤ x.gold ∧ x.gold ≤ 4611686018427387904 := fun x hx => by have := hg x hx; omega
  have hgb : ∀ x ∈ w.chars, (0 ≤ x.gold ∧ x.gold ≤ 4611686018427387904) ∧ 0 ≤ x.bank ∧ x.bank ≤ 4611686018427387904 := fun x hx => by have := (h.w0.ch x hx).go; have := (h.w0.ch x hx).ba; omega
  have hti : ∀ x ∈ w.tills, 0 ≤ x.gold ∧ x.gold ≤ 4611686018427387904 := fun x hx => by have := h.w0.ti x hx; omega
  have hkn : ∀ x ∈ w.things, ∃ p, protoI tab x.proto = some p := h.w0.th
  have hnd : ∀ r ∈ tab.recipes, r.needs.length ≤ 100 := fun r hr => by have := (g.co r hr).ln; omega
  have hdn : ∀ c ∈ w.chars, c.done.length ≤ 10000 := fun x hx => by have := (h.w0.ch x hx).dn; omega
  have hdn2 : ∀ c ∈ w.chars, c.done.length ≤ 100000 := fun x hx => by have := hdn x hx; omega
  have hqo : ∀ q ∈ tab.quests, (0 ≤ q.count ∧ q.count ≤ 100) ∧ 0 ≤ q.gold ∧ q.gold ≤ 1099511627776 := fun q hq => by have := (g.qo q hq).ct; have := (g.qo q hq).go; omega
  have hhs : ∀ x ∈ w.houses, 0 ≤ x.chest ∧ x.chest ≤ 4611686018427387904 := fun x hx => by have := (h.w0.hc x hx).1; omega
  have hpr : ∀ r ∈ tab.rooms, 0 ≤ r.price ∧ r.price ≤ 1099511627776 := fun r hr => by have := (g.ro r hr).pr; omega
  have hgl : ∀ h ∈ w.houses, h.guests.length ≤ 10000 := fun x hx => by have := (h.w0.hc x hx).2; omega
  have hlb : ∀ l ∈ w.lots, (0 ≤ l.bid ∧ l.bid ≤ 1099511627776) ∧ l.bidder.length ≤ 1000 := fun l hl => ⟨(h.w0.lk l hl).bi, (h.w0.lk l hl).nb⟩
  clear h g
  by_cases h1 : cmd = [98, 117, 121]
  · subst h1
    have e2 : moneyA tab w name [98, 117, 121] a b words c = (buyA tab w name a) := by
      unfold moneyA
      repeat (first | rw [if_pos rfl] | rw [if_neg (by decide)])
    rw [e2]
    have F1 := Buy_spec t d e m w mt tab S u bw bt ok lm lt R name a (by omega) (by omega) hg2 hti hnx (by omega)
    refine go ?_
    refine ⟨?_, by simp⟩ <;> intros
    rename Lay => m2
    exact ret1 (v := .bool true) (Ps := [ts t d e (S ++ ((buyA tab w name a)).2) u, wl d m2 ((buyA tab w name a)).1, R]) ⟨m2, rfl, rfl⟩
  have n1 : ¬ (cmd == [98, 117, 121]) = true := by simpa using h1
  by_cases h2 : cmd = [115, 101, 108, 108]
  · subst h2
    have e2 : moneyA tab w name [115, 101, 108, 108] a b words c = (sellA numM tab w name a) := by
      unfold moneyA
      repeat (first | rw [if_pos rfl] | rw [if_neg (by decide)])
    rw [e2]
    have F1 := Sell_spec t d e m w mt tab S u bw bt ok lm lt R name a (by omega) (by omega) hg2 hti hkn (by omega)
    refine go ?_
    refine ⟨?_, by simp⟩ <;> intros
    rename Lay => m2
    exact ret1 (v := .bool true) (Ps := [ts t d e (S ++ ((sellA numM tab w name a)).2) u, wl d m2 ((sellA numM tab w name a)).1, R]) ⟨m2, rfl, rfl⟩
  have n2 : ¬ (cmd == [115, 101, 108, 108]) = true := by simpa using h2
  by_cases h3 : cmd = [108, 105, 115, 116]
  · subst h3
    have e2 : moneyA tab w name [108, 105, 115, 116] a b words c = (w, listS tab w name) := by
      unfold moneyA
      repeat (first | rw [if_pos rfl] | rw [if_neg (by decide)])
    rw [e2]
    have F1 := List_spec t d e m w mt tab S u bw bt ok lm lt R name (by omega)
    refine go ?_
    refine ⟨?_, by simp⟩ <;> intros
    exact ret1 (v := .bool true) (Ps := [ts t d e (S ++ ((w, listS tab w name)).2) u, wl d m ((w, listS tab w name)).1, R]) ⟨m, rfl, rfl⟩
  have n3 : ¬ (cmd == [108, 105, 115, 116]) = true := by simpa using h3
  by_cases h4 : cmd = [100, 101, 112, 111, 115, 105, 116]
  · subst h4
    have e2 : moneyA tab w name [100, 101, 112, 111, 115, 105, 116] a b words c = (bankA numM tab w name a false) := by
      unfold moneyA
      repeat (first | rw [if_pos rfl] | rw [if_neg (by decide)])
    rw [e2]
    have F1 := Bank_spec t d e m w mt tab S u bw bt lm R name a false hgb (by omega)
    refine go ?_
    refine ⟨?_, by simp⟩ <;> intros
    exact ret1 (v := .bool true) (Ps := [ts t d e (S ++ ((bankA numM tab w name a false)).2) u, wl d m ((bankA numM tab w name a false)).1, R]) ⟨m, rfl, rfl⟩
  have n4 : ¬ (cmd == [100, 101, 112, 111, 115, 105, 116]) = true := by simpa using h4
  by_cases h5 : cmd = [119, 105, 116, 104, 100, 114, 97, 119]
  · subst h5
    have e2 : moneyA tab w name [119, 105, 116, 104, 100, 114, 97, 119] a b words c = (bankA numM tab w name a true) := by
      unfold moneyA
      repeat (first | rw [if_pos rfl] | rw [if_neg (by decide)])
    rw [e2]
    have F1 := Bank_spec t d e m w mt tab S u bw bt lm R name a true hgb (by omega)
    refine go ?_
    refine ⟨?_, by simp⟩ <;> intros
    exact ret1 (v := .bool true) (Ps := [ts t d e (S ++ ((bankA numM tab w name a true)).2) u, wl d m ((bankA numM tab w name a true)).1, R]) ⟨m, rfl, rfl⟩
  have n5 : ¬ (cmd == [119, 105, 116, 104, 100, 114, 97, 119]) = true := by simpa using h5
  by_cases h6 : cmd = [98, 97, 108, 97, 110, 99, 101]
  · subst h6
    have e2 : moneyA tab w name [98, 97, 108, 97, 110, 99, 101] a b words c = (w, [(name, [89, 111, 117, 32, 104, 97, 118, 101, 32] ++ nT (w.chars.getD c default).bank ++ [32, 105, 110, 32, 116, 104, 101, 32, 98, 97, 110, 107, 46])]) := by
      unfold moneyA
      repeat (first | rw [if_pos rfl] | rw [if_neg (by decide)])
    rw [e2]
    obtain ⟨x, hx, hon, hnm⟩ := on_get hc
    have hcl := (List.getElem?_eq_some_iff.1 hx).1
    obtain ⟨⟨A0, c0⟩, hz, _⟩ := zip_get hx lm.1
    have zc : w.chars.length = (w.chars.zip m.dn).length := by rw [List.length_zip, lm.1, Nat.min_self]
    have k2 := (hgb x (List.mem_of_getElem? hx)).2
    rw [getD_of hx]
    have hln := nT_len x.bank (by omega) (by omega)
    have F1 := on_spec t d e m w S u bw lm name
    rw [hc] at F1
    simp only [iv] at F1
    have F2 := n_spec x.bank (by omega) (by omega)
    have F3 := say_spec t d e S u name ([89, 111, 117, 32, 104, 97, 118, 101, 32] ++ nT x.bank ++ [32, 105, 110, 32, 116, 104, 101, 32, 98, 97, 110, 107, 46]) (by omega)
    refine go ?_
    refine ⟨?_, by simp⟩ <;> intros
    exact ret1 (v := .bool true) (Ps := [ts t d e (S ++ [(name, [89, 111, 117, 32, 104, 97, 118, 101, 32] ++ nT x.bank ++ [32, 105, 110, 32, 116, 104, 101, 32, 98, 97, 110, 107, 46])]) u, wl d m w, R]) ⟨m, rfl, rfl⟩
  have n6 : ¬ (cmd == [98, 97, 108, 97, 110, 99, 101]) = true := by simpa using h6
  by_cases h7 : cmd = [99, 114, 97, 102, 116]
  · subst h7
    have e2 : moneyA tab w name [99, 114, 97, 102, 116] a b words c = (craftA tab w name a) := by
      unfold moneyA
      repeat (first | rw [if_pos rfl] | rw [if_neg (by decide)])
    rw [e2]
    have F1 := Craft_spec t d e m w mt tab S u bw bt lm lt R name a (by omega) hnd hnx (by omega)
    refine go ?_
    refine ⟨?_, by simp⟩ <;> intros
    rename Lay => m2
    exact ret1 (v := .bool true) (Ps := [ts t d e (S ++ ((craftA tab w name a)).2) u, wl d m2 ((craftA tab w name a)).1, R]) ⟨m2, rfl, rfl⟩
  have n7 : ¬ (cmd == [99, 114, 97, 102, 116]) = true := by simpa using h7
  by_cases h8 : cmd = [113, 117, 101, 115, 116]
  · subst h8
    have e2 : moneyA tab w name [113, 117, 101, 115, 116] a b words c = (if 1 < words then turnA numM tab w name a else (w, questsS tab w name)) := by
      unfold moneyA
      repeat (first | rw [if_pos rfl] | rw [if_neg (by decide)])
    rw [e2]
    by_cases hwd : 1 < words
    · rw [if_pos hwd]
      have F1 := Turn_spec t d e m w mt tab S u bw bt lm R name a (by omega) hg hdn hqo hnx hmi (by omega)
      refine go ?_
      refine ⟨?_, by simp⟩ <;> intros
      rename Lay => m2
      exact ret1 (v := .bool true) (Ps := [ts t d e (S ++ (turnA numM tab w name a).2) u, wl d m2 (turnA numM tab w name a).1, R]) ⟨m2, rfl, rfl⟩
    · rw [if_neg hwd]
      have F1 := Quests_spec t d e m w mt tab S u bw bt qo lm R name hdn2 (by omega)
      refine go ?_
      refine ⟨?_, by simp⟩ <;> intros
      exact ret1 (v := .bool true) (Ps := [ts t d e (S ++ questsS tab w name) u, wl d m w, R]) ⟨m, rfl, rfl⟩
  have n8 : ¬ (cmd == [113, 117, 101, 115, 116]) = true := by simpa using h8
  by_cases h9 : cmd = [104, 111, 117, 115, 101]
  · subst h9
    have e2 : moneyA tab w name [104, 111, 117, 115, 101] a b words c = (houseDoA tab w name a b words) := by
      unfold moneyA
      repeat (first | rw [if_pos rfl] | rw [if_neg (by decide)])
    rw [e2]
    have F1 := houseDo_spec t d e m w mt tab S u bw bt lm R name a b words (by omega) (by omega) (by omega) hgb hhs hpr hmi hgl (by omega)
    refine go ?_
    refine ⟨?_, by simp⟩ <;> intros
    rename Lay => m2
    exact ret1 (v := .bool true) (Ps := [ts t d e (S ++ ((houseDoA tab w name a b words)).2) u, wl d m2 ((houseDoA tab w name a b words)).1, R]) ⟨m2, rfl, rfl⟩
  have n9 : ¬ (cmd == [104, 111, 117, 115, 101]) = true := by simpa using h9
  by_cases h10 : cmd = [111, 102, 102, 101, 114]
  · subst h10
    have e2 : moneyA tab w name [111, 102, 102, 101, 114] a b words c = (offerA numM tab w name a b) := by
      unfold moneyA
      repeat (first | rw [if_pos rfl] | rw [if_neg (by decide)])
    rw [e2]
    have F1 := Offer_spec t d e m w mt tab S u bw bt lm R name a b (by omega) (by omega) hnx hnow (by omega)
    refine go ?_
    refine ⟨?_, by simp⟩ <;> intros
    rename Lay => m2
    exact ret1 (v := .bool true) (Ps := [ts t d e (S ++ ((offerA numM tab w name a b)).2) u, wl d m2 ((offerA numM tab w name a b)).1, R]) ⟨m2, rfl, rfl⟩
  have n10 : ¬ (cmd == [111, 102, 102, 101, 114]) = true := by simpa using h10
  by_cases h11 : cmd = [98, 105, 100]
  · subst h11
    have e2 : moneyA tab w name [98, 105, 100] a b words c = (bidA numM tab w name a b) := by
      unfold moneyA
      repeat (first | rw [if_pos rfl] | rw [if_neg (by decide)])
    rw [e2]
    have F1 := Bid_spec t d e m w mt tab S u bw bt lm R name a b (by omega) hg hlb (by omega)
    refine go ?_
    refine ⟨?_, by simp⟩ <;> intros
    exact ret1 (v := .bool true) (Ps := [ts t d e (S ++ ((bidA numM tab w name a b)).2) u, wl d m ((bidA numM tab w name a b)).1, R]) ⟨m, rfl, rfl⟩
  have n11 : ¬ (cmd == [98, 105, 100]) = true := by simpa using h11
  by_cases h12 : cmd = [108, 111, 116, 115]
  · subst h12
    have e2 : moneyA tab w name [108, 111, 116, 115] a b words c = (w, lotsS tab w name) := by
      unfold moneyA
      repeat (first | rw [if_pos rfl] | rw [if_neg (by decide)])
    rw [e2]
    have F1 := Lots_spec t d e m w mt tab S u bw bt lm lo R name (by omega)
    refine go ?_
    refine ⟨?_, by simp⟩ <;> intros
    exact ret1 (v := .bool true) (Ps := [ts t d e (S ++ ((w, lotsS tab w name)).2) u, wl d m ((w, lotsS tab w name)).1, R]) ⟨m, rfl, rfl⟩
  have n12 : ¬ (cmd == [108, 111, 116, 115]) = true := by simpa using h12
  exfalso
  rw [List.contains_eq_mem, decide_eq_true_eq] at hmy
  simp only [moneyW, List.mem_cons, List.not_mem_nil, or_false] at hmy
  rcases hmy with h | h | h | h | h | h | h | h | h | h | h | h
  · exact h1 h
  · exact h2 h
  · exact h3 h
  · exact h4 h
  · exact h5 h
  · exact h6 h
  · exact h7 h
  · exact h8 h
  · exact h9 h
  · exact h10 h
  · exact h11 h
  · exact h12 h
end
end Go.Proofs.YtflmbhkjhfmeoaaGreat
