/-
  Walks and laws joined: WdSell.
-/
import Derived.Test.YtflmbhkjhfmeoaaGreatQ28
import Derived.Test.YtflmbhkjhfmeoaaGreatQ39
set_option linter.unusedVariables false
set_option linter.unusedSimpArgs false
namespace Go.Proofs.YtflmbhkjhfmeoaaGreat
open Go.SL
set_option maxHeartbeats 8000000
set_option maxRecDepth 20000
section
variable (t d e : Nat) (m : Lay) (w : Wld) (mt : Tay) (tab : Tab) (S : List Sy) (u : Int)
theorem Sell_spec (bw : Bw w) (bt : Bt tab) (ok : Okt tab) (lm : Laid m w) (lt : TLaid mt tab) (R : HProp) [hr : RT R e mt tab] (name word : Tx) (hn : name.length ≤ 10000) (hw : word.length ≤ 10000) (hb : ∀ x ∈ w.chars, 0 ≤ x.gold ∧ x.gold ≤ 4611686018427387904) (hti : ∀ x ∈ w.tills, 0 ≤ x.gold ∧ x.gold ≤ 4611686018427387904) (hkn : ∀ x ∈ w.things, ∃ p, protoI tab x.proto = some p) (hS : S.length ≤ 200000) :
    Trip Tryz.prog 225 [.pointer (some ⟨t, 0, none⟩), str name, str word] [ts t d e S u, wl d m w, R] (fun v Ps => ∃ m', v = .tuple #[] ∧ Ps = [ts t d e (S ++ (sellA numM tab w name word).2) u, wl d m' (sellA numM tab w name word).1, R]) := by
  refine Trip.of (m := 145) Tryz.func225 rfl rfl rfl ?_
  intro o Rs
  simp only [List.cons_append, List.nil_append, enumFrom]
  haveI : Plans 6 [37, 40, 44, 48, 51, 55] [22, 24, 25, 26] [[0, 1, 2, 3, 4, 5, 6, 7, 8, 9, 10, 11, 12, 13, 14, 15, 16, 17, 18, 19, 20, 21, 22, 23, 24, 25, 26], [0, 1, 2, 3, 4, 5, 6, 7, 8, 9, 10, 11, 12, 13, 14, 15, 16, 17, 18, 19, 20, 21, 22, 23, 25, 24, 26], [0, 1, 2, 3, 4, 5, 6, 7, 8, 9, 10, 11, 12, 13, 14, 15, 16, 17, 18, 19, 20, 21, 25, 22, 23, 24, 26]] := ⟨⟩
  haveI : Plan 7 [63, 66, 70, 74, 77, 81, 83, 84] [0, 1, 2, 3, 4, 5, 6, 7, 8, 9, 10, 11, 12, 13, 14, 15, 16, 17, 18, 19, 20, 21, 22, 23, 24, 25, 26, 27, 28, 29, 30, 31, 32] := ⟨⟩
  haveI : Plan 12 [125, 129, 132, 136] [0, 1, 2, 3, 4, 5, 6, 7, 8, 9, 10, 11, 12, 13, 14, 15] := ⟨⟩
  unfold sellA
  have zc : w.chars.length = (w.chars.zip m.dn).length := by rw [List.length_zip, lm.1, Nat.min_self]
  have F1 := on_spec t d e m w S u bw lm name
  rcases hc : onI w name with _ | c
  · rw [hc] at F1
    simp only [iv] at F1 ⊢
    refine goW ?_
    refine ⟨?_, by simp⟩ <;> intros
    exact ret0 ⟨m, rfl, by rw [List.append_nil]⟩
  obtain ⟨x, hx, hon, hnm⟩ := on_get hc
  have hcl := (List.getElem?_eq_some_iff.1 hx).1
  obtain ⟨⟨A0, c0⟩, hz, _⟩ := zip_get hx lm.1
  rw [hc] at F1
  simp only [iv, getD_of hx] at F1 ⊢
  have F2 := shop_spec t d e m w mt tab S u bw bt lm lt R name c x hx (by omega)
  rcases hsh : shopI tab w x.room with _ | ⟨s, k⟩
  · rw [hsh] at F2
    simp only [Option.isNone_none, if_true] at F2 ⊢
    refine goW ?_
    refine ⟨?_, by simp⟩ <;> intros
    exact ret0 ⟨m, rfl, rfl⟩
  rw [hsh] at F2
  simp only [Option.isNone_some, Bool.false_eq_true, if_false, List.append_nil] at F2 ⊢
  obtain ⟨_, y, hy⟩ := shop_get hsh
  have hkl := (List.getElem?_eq_some_iff.1 hy).1
  have F3 := have_spec t d e m w mt tab S u bw bt lm R name word (by omega) (by omega)
  cases hf : findA numM tab w (ofL w name 2) word with
  | none =>
    rw [hf] at F3
    simp only [iv, Option.isNone_none, if_true] at F3 ⊢
    refine goW ?_
    refine ⟨?_, by simp⟩ <;> intros
    exact ret0 ⟨m, rfl, rfl⟩
  | some i =>
    obtain ⟨z, hz2⟩ := findA_get hf
    have hil := (List.getElem?_eq_some_iff.1 hz2).1
    rw [hf] at F3
    simp only [iv, Option.isNone_some, Bool.false_eq_true, if_false, List.append_nil] at F3 ⊢
    obtain ⟨p, hp⟩ := hkn z (List.mem_of_getElem? hz2)
    obtain ⟨q, hq, _⟩ := find_get hp
    have hpl := find_lt hp
    have b4 := bt.np
    have b5 := bw.nt
    have hpr := ok.pp q (List.mem_of_getElem? hq)
    have hql := bt.pn q (List.mem_of_getElem? hq)
    have hg := hb x (List.mem_of_getElem? hx)
    have ht := hti y (List.mem_of_getElem? hy)
    have F4 := Proto_spec e mt tab z.proto (by omega) R
    rw [hp] at F4
    simp only [iv] at F4
    rw [getD_of hz2, show proOf tab z.proto = q from by unfold proOf; rw [hp]; exact getD_of hq, getD_of hy]
    have F5 := Move_spec y.gold x.gold (q.price / 2) (by omega) (by omega) (by omega)
    rcases move_val y.gold x.gold (q.price / 2) with hmv | hmv
    · rw [hmv] at F5 ⊢
      by_cases h0 : q.price / 2 = 0
      · rw [if_neg (by simp [h0])]
        rw [setI_eq hy, setC_eq (w := { w with tills := w.tills.set k { y with gold := y.gold } }) hx]
        have F6 := Gone_spec d m { w with tills := w.tills.set k { y with gold := y.gold }, chars := w.chars.set c { x with gold := x.gold } } (by simp only; omega) z.id
        have F7 := say_spec t d e S u name ([89, 111, 117, 32, 115, 101, 108, 108, 32, 97, 32] ++ q.name ++ [46]) (by omega)
        refine goW ?_
        (repeat' (first | exact trivial | apply And.intro | intro _))
        all_goals first
          | (exfalso; first | contradiction | omega)
          | exact ret0 ⟨_, rfl, rfl⟩
      · rw [if_pos ⟨rfl, h0⟩]
        have F6 := say_spec t d e S u name [84, 104, 101, 121, 32, 99, 97, 110, 110, 111, 116, 32, 112, 97, 121, 46] (by omega)
        refine goW ?_
        (repeat' (first | exact trivial | apply And.intro | intro _))
        all_goals first
          | (exfalso; first | contradiction | omega)
          | exact ret0 ⟨_, rfl, rfl⟩
    · rw [hmv] at F5 ⊢
      rw [if_neg (by simp)]
      rw [setI_eq hy, setC_eq (w := { w with tills := w.tills.set k { y with gold := y.gold - q.price / 2 } }) hx]
      have F6 := Gone_spec d m { w with tills := w.tills.set k { y with gold := y.gold - q.price / 2 }, chars := w.chars.set c { x with gold := x.gold + q.price / 2 } } (by simp only; omega) z.id
      have F7 := say_spec t d e S u name ([89, 111, 117, 32, 115, 101, 108, 108, 32, 97, 32] ++ q.name ++ [46]) (by omega)
      refine goW ?_
      (repeat' (first | exact trivial | apply And.intro | intro _))
      all_goals first
        | (exfalso; first | contradiction | omega)
        | exact ret0 ⟨_, rfl, rfl⟩
end
end Go.Proofs.YtflmbhkjhfmeoaaGreat
