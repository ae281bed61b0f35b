/-
  Walks and laws joined: WdBody.
-/
import Derived.Test.YtflmbhkjhfmeoaaGreatQ38
import Derived.Test.YtflmbhkjhfmeoaaGreatQ26
import Derived.Test.YtflmbhkjhfmeoaaGreatQ19
import Derived.Test.YtflmbhkjhfmeoaaGreatQ14
import Derived.Test.YtflmbhkjhfmeoaaGreatQ13
import Derived.Test.YtflmbhkjhfmeoaaGreatQ12
import Derived.Test.YtflmbhkjhfmeoaaGreatQ20
set_option linter.unusedVariables false
set_option linter.unusedSimpArgs false
namespace Go.Proofs.YtflmbhkjhfmeoaaGreat
open Go.SL
set_option maxHeartbeats 8000000
set_option maxRecDepth 20000
section
variable (t d e : Nat) (m : Lay) (w : Wld) (mt : Tay) (tab : Tab) (S : List Sy) (u : Int)
theorem Flee0_spec (bw : Bw w) (bt : Bt tab) (lm : Laid m w) (R : HProp) [hr : RT R e mt tab] (name : Tx) (b : Nat) (A : Option Addr) (cc : Nat) (L : List Int) (hok : ∀ n ∈ L, -9223372036854775808 ≤ n ∧ n ≤ 9223372036854775807) (Q : HProp) (hQ : Reads Q E64 A L) (hl : L.length ≤ 100000) (hS : S.length ≤ 200000) :
    Trip Tryz.prog 20 [.pointer (some ⟨t, 0, none⟩), str name, .pointer (some ⟨b, 0, none⟩)] [ts t d e S u, wl d m w, R, blk b 46 [.slice A L.length cc, .int .i64 0], Q] (fun v Ps => v = .tuple #[] ∧ Ps = [ts t d e (S ++ (fleeA tab w name (rollN L 0 6).1).2) u, wl d m (fleeA tab w name (rollN L 0 6).1).1, R, blk b 46 [.slice A L.length cc, .int .i64 ((fleeN w name L : Nat) : Int)], Q]) :=
  Flee_spec t d e m w mt tab S u bw bt lm R name b A cc L hok Q hQ 0 hl hS
theorem body_spec {s K : Nat} (g : Good tab) (h : Iv tab s K w) (hs : s ≤ 1000) (hK : K ≤ 90000) (lm : Laid m w) (R : HProp) [hr : RT R e mt tab] (name cmd a b : Tx) (hn : name.length ≤ 1000) (ha : a.length ≤ 1000) (hb : b.length ≤ 1000) (b0 : Nat) (A : Option Addr) (cc : Nat) (L : List Int) (hok : ∀ n ∈ L, -9223372036854775808 ≤ n ∧ n ≤ 9223372036854775807) (Q : HProp) (hQ : Reads Q E64 A L) (hl : L.length ≤ 100000) (hS : S.length ≤ 100000) :
    Trip Tryz.prog 157 [.pointer (some ⟨t, 0, none⟩), str name, str cmd, str a, str b, .pointer (some ⟨b0, 0, none⟩)] [ts t d e S u, wl d m w, R, blk b0 46 [.slice A L.length cc, .int .i64 0], Q]
      (fun v Ps => v = .bool (bodyW.contains cmd) ∧ Ps = [ts t d e (S ++ (bodyA tab L w name cmd a b).1.2) u, wl d m (bodyA tab L w name cmd a b).1.1, R, blk b0 46 [.slice A L.length cc, .int .i64 (((bodyA tab L w name cmd a b).2 : Nat) : Int)], Q]) := by
  refine Trip.of (m := 77) Tryz.func157 rfl rfl rfl ?_
  intro o Rs
  simp only [List.cons_append, List.nil_append, enumFrom]
  have bw := iv_bw h hs hK
  have bt := bt_of g
  have hsc : ∀ x ∈ w.chars, (-1000000000000000000 ≤ x.gold ∧ x.gold ≤ 1000000000000000000) ∧ (-1000000000000000000 ≤ x.bank ∧ x.bank ≤ 1000000000000000000) ∧ (-1000000000000000000 ≤ x.xp ∧ x.xp ≤ 1000000000000000000) ∧ (-1000000000000000000 ≤ x.hp ∧ x.hp ≤ 1000000000000000000) := fun x hx => by
    have k := h.w0.ch x hx
    have k1 := k.go
    have k2 := k.ba
    have k3 := k.xp
    have k4 := k.hp
    omega
  clear h g
  by_cases h1 : cmd = [108, 111, 111, 107]
  · subst h1
    have e1 : bodyW.contains [108, 111, 111, 107] = true := by decide
    have e2 : bodyA tab L w name [108, 111, 111, 107] a b = ((w, roomS tab w name), 0) := by
      unfold bodyA
      repeat (first | rw [if_pos rfl] | rw [if_neg (by decide)])
    rw [e1, e2]
    have F1 := RoomS_spec t d e m w mt tab S u bw bt lm R name (by omega)
    refine go ?_
    simp
  have n1 : ¬ (cmd == [108, 111, 111, 107]) = true := by simpa using h1
  by_cases h2 : cmd = [103, 101, 116]
  · subst h2
    have e1 : bodyW.contains [103, 101, 116] = true := by decide
    have e2 : bodyA tab L w name [103, 101, 116] a b = (getA numM tab w name a, 0) := by
      unfold bodyA
      repeat (first | rw [if_pos rfl] | rw [if_neg (by decide)])
    rw [e1, e2]
    have F1 := Get_spec t d e m w mt tab S u bw bt lm R name a (by omega) (by omega) (by omega)
    refine go ?_
    simp
  have n2 : ¬ (cmd == [103, 101, 116]) = true := by simpa using h2
  by_cases h3 : cmd = [100, 114, 111, 112]
  · subst h3
    have e1 : bodyW.contains [100, 114, 111, 112] = true := by decide
    have e2 : bodyA tab L w name [100, 114, 111, 112] a b = (dropA numM tab w name a, 0) := by
      unfold bodyA
      repeat (first | rw [if_pos rfl] | rw [if_neg (by decide)])
    rw [e1, e2]
    have F1 := Drop_spec t d e m w mt tab S u bw bt lm R name a (by omega) (by omega) (by omega)
    refine go ?_
    simp
  have n3 : ¬ (cmd == [100, 114, 111, 112]) = true := by simpa using h3
  by_cases h4 : cmd = [105, 110, 118, 101, 110, 116, 111, 114, 121]
  · subst h4
    have e1 : bodyW.contains [105, 110, 118, 101, 110, 116, 111, 114, 121] = true := by decide
    have e2 : bodyA tab L w name [105, 110, 118, 101, 110, 116, 111, 114, 121] a b = ((w, packS tab w name), 0) := by
      unfold bodyA
      repeat (first | rw [if_pos rfl] | rw [if_neg (by decide)])
    rw [e1, e2]
    have F1 := Pack_spec t d e m w mt tab S u bw bt lm R name (by omega)
    refine go ?_
    simp
  have n4 : ¬ (cmd == [105, 110, 118, 101, 110, 116, 111, 114, 121]) = true := by simpa using h4
  by_cases h5 : cmd = [119, 104, 111]
  · subst h5
    have e1 : bodyW.contains [119, 104, 111] = true := by decide
    have e2 : bodyA tab L w name [119, 104, 111] a b = ((w, whoS w name), 0) := by
      unfold bodyA
      repeat (first | rw [if_pos rfl] | rw [if_neg (by decide)])
    rw [e1, e2]
    have F1 := WhoS_spec t d e m w S u bw lm name (by omega)
    refine go ?_
    simp
  have n5 : ¬ (cmd == [119, 104, 111]) = true := by simpa using h5
  by_cases h6 : cmd = [107, 105, 108, 108]
  · subst h6
    have e1 : bodyW.contains [107, 105, 108, 108] = true := by decide
    have e2 : bodyA tab L w name [107, 105, 108, 108] a b = (killA numM tab w name a, 0) := by
      unfold bodyA
      repeat (first | rw [if_pos rfl] | rw [if_neg (by decide)])
    rw [e1, e2]
    have F1 := Kill_spec t d e m w mt tab S u bw bt lm R name a (by omega) (by omega) (by omega)
    refine go ?_
    simp
  have n6 : ¬ (cmd == [107, 105, 108, 108]) = true := by simpa using h6
  by_cases h7 : cmd = [102, 108, 101, 101]
  · subst h7
    have e1 : bodyW.contains [102, 108, 101, 101] = true := by decide
    have e2 : bodyA tab L w name [102, 108, 101, 101] a b = (fleeA tab w name (rollN L 0 6).1, fleeN w name L) := by
      unfold bodyA
      repeat (first | rw [if_pos rfl] | rw [if_neg (by decide)])
    rw [e1, e2]
    have F1 := Flee0_spec t d e m w mt tab S u bw bt lm R name b0 A cc L hok Q hQ hl (by omega)
    refine go ?_
    simp
  have n7 : ¬ (cmd == [102, 108, 101, 101]) = true := by simpa using h7
  by_cases h8 : cmd = [119, 101, 97, 114]
  · subst h8
    have e1 : bodyW.contains [119, 101, 97, 114] = true := by decide
    have e2 : bodyA tab L w name [119, 101, 97, 114] a b = (wearA numM tab w name a, 0) := by
      unfold bodyA
      repeat (first | rw [if_pos rfl] | rw [if_neg (by decide)])
    rw [e1, e2]
    have F1 := Wear_spec t d e m w mt tab S u bw bt lm R name a (by omega) (by omega) (by omega)
    refine go ?_
    simp
  have n8 : ¬ (cmd == [119, 101, 97, 114]) = true := by simpa using h8
  by_cases h9 : cmd = [114, 101, 109, 111, 118, 101]
  · subst h9
    have e1 : bodyW.contains [114, 101, 109, 111, 118, 101] = true := by decide
    have e2 : bodyA tab L w name [114, 101, 109, 111, 118, 101] a b = (removeA numM tab w name a, 0) := by
      unfold bodyA
      repeat (first | rw [if_pos rfl] | rw [if_neg (by decide)])
    rw [e1, e2]
    have F1 := Remove_spec t d e m w mt tab S u bw bt lm R name a (by omega) (by omega) (by omega)
    refine go ?_
    simp
  have n9 : ¬ (cmd == [114, 101, 109, 111, 118, 101]) = true := by simpa using h9
  by_cases h10 : cmd = [115, 99, 111, 114, 101]
  · subst h10
    have e1 : bodyW.contains [115, 99, 111, 114, 101] = true := by decide
    have e2 : bodyA tab L w name [115, 99, 111, 114, 101] a b = ((w, scoreS nT w name), 0) := by
      unfold bodyA
      repeat (first | rw [if_pos rfl] | rw [if_neg (by decide)])
    rw [e1, e2]
    have F1 := Score_spec t d e m w S u bw lm name hsc (by omega)
    refine go ?_
    simp
  have n10 : ¬ (cmd == [115, 99, 111, 114, 101]) = true := by simpa using h10
  by_cases h11 : cmd = [103, 105, 118, 101]
  · subst h11
    have e1 : bodyW.contains [103, 105, 118, 101] = true := by decide
    have e2 : bodyA tab L w name [103, 105, 118, 101] a b = (giveA numM lowerM tab w name a b, 0) := by
      unfold bodyA
      repeat (first | rw [if_pos rfl] | rw [if_neg (by decide)])
    rw [e1, e2]
    have F1 := Give_spec t d e m w mt tab S u bw bt lm R name a b (by omega) (by omega) (by omega) (by omega)
    refine go ?_
    simp
  have n11 : ¬ (cmd == [103, 105, 118, 101]) = true := by simpa using h11
  have e1 : bodyW.contains cmd = false := by
    rw [List.contains_eq_mem, decide_eq_false_iff_not]
    simp only [bodyW, List.mem_cons, List.not_mem_nil, or_false, not_or]
    exact ⟨h1, h2, h3, h4, h5, h6, h7, h8, h9, h10, h11⟩
  have e2 : bodyA tab L w name cmd a b = ((w, []), 0) := by
    unfold bodyA
    rw [if_neg h1, if_neg h2, if_neg h3, if_neg h4, if_neg h5, if_neg h6, if_neg h7, if_neg h8, if_neg h9, if_neg h10, if_neg h11]
  rw [e1, e2]
  refine go ?_
  (repeat' (first | exact trivial | apply And.intro | intro _))
  all_goals first
    | (exfalso; first | exact n1 (by assumption) | exact n2 (by assumption) | exact n3 (by assumption) | exact n4 (by assumption) | exact n5 (by assumption) | exact n6 (by assumption) | exact n7 (by assumption) | exact n8 (by assumption) | exact n9 (by assumption) | exact n10 (by assumption) | exact n11 (by assumption) | exact h1 (by assumption) | exact h2 (by assumption) | exact h3 (by assumption) | exact h4 (by assumption) | exact h5 (by assumption) | exact h6 (by assumption) | exact h7 (by assumption) | exact h8 (by assumption) | exact h9 (by assumption) | exact h10 (by assumption) | exact h11 (by assumption))
    | exact ret1 (v := .bool false) (Ps := [ts t d e (S ++ []) u, wl d m w, R, blk b0 46 [.slice A L.length cc, .int .i64 ((0 : Nat) : Int)], Q]) ⟨rfl, rfl⟩ (hh := by rw [List.append_nil]; (exact ent_))
theorem body_none {tab : Tab} {L : List Int} {w : Wld} {name cmd a b : Tx} (h : bodyW.contains cmd = false) : bodyA tab L w name cmd a b = ((w, []), 0) := by
  rw [List.contains_eq_mem, decide_eq_false_iff_not] at h
  simp only [bodyW, List.mem_cons, List.not_mem_nil, or_false, not_or] at h
  obtain ⟨h1, h2, h3, h4, h5, h6, h7, h8, h9, h10, h11⟩ := h
  unfold bodyA
  rw [if_neg h1, if_neg h2, if_neg h3, if_neg h4, if_neg h5, if_neg h6, if_neg h7, if_neg h8, if_neg h9, if_neg h10, if_neg h11]
end
end Go.Proofs.YtflmbhkjhfmeoaaGreat
