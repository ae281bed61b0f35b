/-
  Walks and laws joined: WdFight.
-/
import Derived.Test.YtflmbhkjhfmeoaaGreatQ29
import Derived.Test.YtflmbhkjhfmeoaaGreatQ30
import Derived.Test.YtflmbhkjhfmeoaaGreatQ19
set_option linter.unusedVariables false
set_option linter.unusedSimpArgs false
namespace Go.Proofs.YtflmbhkjhfmeoaaGreat
open Go.SL
set_option maxHeartbeats 8000000
set_option maxRecDepth 20000
theorem setM_eq {w : Wld} {k : Nat} {y : Mob} (hy : w.mobs[k]? = some y) (f : Mob → Mob) : setM w k f = { w with mobs := w.mobs.set k (f y) } := by rw [setM, getD_of hy]
section
variable (t d e : Nat) (m : Lay) (w : Wld) (mt : Tay) (tab : Tab) (S : List Sy) (u : Int)
structure Fgt (tab : Tab) (w : Wld) (x : Chr) : Prop where
  xp : 0 ≤ x.xp ∧ x.xp ≤ 1099511627776
  go : 0 ≤ x.gold ∧ x.gold ≤ 1099511627776
  hp : -1000000000000 ≤ x.hp ∧ x.hp ≤ 1000000000000000
  mi : -4611686018427387904 ≤ w.minted ∧ w.minted ≤ 4611686018427387904
  mo : ∀ y ∈ w.mobs, -1000000000000 ≤ y.hp ∧ y.hp ≤ 1000000000000000
  pr : ∀ p ∈ tab.protos, 0 ≤ p.power ∧ p.power ≤ 100
  mp : ∀ p ∈ tab.mobs, (0 ≤ p.xp ∧ p.xp ≤ 1099511627776) ∧ (0 ≤ p.gold ∧ p.gold ≤ 1099511627776) ∧ (0 ≤ p.power ∧ p.power ≤ 100) ∧ p.name.length ≤ 10000
theorem mprOf_ok {tab : Tab} (h : ∀ p ∈ tab.mobs, (0 ≤ p.xp ∧ p.xp ≤ 1099511627776) ∧ (0 ≤ p.gold ∧ p.gold ≤ 1099511627776) ∧ (0 ≤ p.power ∧ p.power ≤ 100) ∧ p.name.length ≤ 10000) (id : Int) : ((0 ≤ (mprOf tab id).xp ∧ (mprOf tab id).xp ≤ 1099511627776) ∧ (0 ≤ (mprOf tab id).gold ∧ (mprOf tab id).gold ≤ 1099511627776) ∧ (0 ≤ (mprOf tab id).power ∧ (mprOf tab id).power ≤ 100) ∧ (mprOf tab id).name.length ≤ 10000) := by
  unfold mprOf
  split
  · rename_i k hk
    obtain ⟨q, hq, _⟩ := find_get hk
    rw [getD_of hq]
    exact h q (List.mem_of_getElem? hq)
  · decide
theorem power_ok {tab : Tab} (h : ∀ p ∈ tab.protos, 0 ≤ p.power ∧ p.power ≤ 100) (w : Wld) (name : Tx) (slot : Int) : 0 ≤ powerN tab w name slot ∧ powerN tab w name slot ≤ 100 := by
  unfold powerN
  split
  · decide
  · split
    · decide
    · unfold proOf
      split
      · rename_i k hk
        obtain ⟨q, hq, _⟩ := find_get hk
        rw [getD_of hq]
        exact h q (List.mem_of_getElem? hq)
      · decide
theorem bw_setm {w : Wld} (bw : Bw w) (k : Nat) (y : Mob) : Bw { w with mobs := w.mobs.set k y } := ⟨bw.nc, bw.nt, by simp only [List.length_set]; exact bw.nm, bw.nh, bw.nl, bw.ni, bw.gs, bw.cn⟩
theorem fight_spec (bw : Bw w) (bt : Bt tab) (lm : Laid m w) (R : HProp) [hr : RT R e mt tab] (c : Nat) (x : Chr) (hx : w.chars[c]? = some x) (fg : Fgt tab w x) (b : Nat) (A : Option Addr) (cc : Nat) (L : List Int) (hok : ∀ n ∈ L, -9223372036854775808 ≤ n ∧ n ≤ 9223372036854775807) (Q : HProp) (hQ : Reads Q E64 A L) (k0 : Nat) (hl : L.length ≤ 100000) (hS : S.length ≤ 190000) :
    Trip Tryz.prog 237 [.pointer (some ⟨t, 0, none⟩), .int .i64 (c : Int), .pointer (some ⟨b, 0, none⟩)] [ts t d e S u, wl d m w, R, blk b 46 [.slice A L.length cc, .int .i64 (k0 : Int)], Q]
      (fun v Ps => ∃ m', v = .tuple #[] ∧ Ps = [ts t d e (S ++ (fightA tab L w c k0).1.2) u, wl d m' (fightA tab L w c k0).1.1, R, blk b 46 [.slice A L.length cc, .int .i64 ((fightA tab L w c k0).2 : Int)], Q]) := by
  refine Trip.of (m := 157) Tryz.func237 rfl rfl rfl ?_
  intro o Rs
  simp only [List.cons_append, List.nil_append, enumFrom]
  haveI : Plan 1 [23, 27] [0, 1, 2, 3, 4, 5, 6, 7, 8, 9] := ⟨⟩
  haveI : Plan 4 [39] [0, 2, 3, 4, 5, 1, 6, 7, 8] := ⟨⟩
  haveI : Plan 6 [48, 50, 51, 52] [0, 1, 2, 3, 4, 5, 6, 7, 8, 9] := ⟨⟩
  haveI : Plan 7 [58, 60, 61, 62] [0, 1, 2, 3, 4, 5, 6, 7, 8, 9] := ⟨⟩
  haveI : Plan 8 [67, 70, 74, 81] [0, 1, 2, 3, 4, 5, 6, 7, 8, 9, 10, 11, 13, 14, 15, 16, 17, 12, 18, 19, 20, 21, 22, 23] := ⟨⟩
  haveI : Plan 12 [111, 113, 114, 115] [0, 1, 2, 3, 4, 5, 6, 7, 8, 9] := ⟨⟩
  haveI : Plan 13 [118, 126] [0, 1, 2, 5, 6, 7, 8, 9, 3, 4, 10, 11, 12] := ⟨⟩
  haveI : Plan 16 [135, 137, 138, 139] [0, 1, 2, 3, 4, 5, 6, 7, 8, 9] := ⟨⟩
  unfold fightA
  have zc : w.chars.length = (w.chars.zip m.dn).length := by rw [List.length_zip, lm.1, Nat.min_self]
  have hcl := (List.getElem?_eq_some_iff.1 hx).1
  obtain ⟨⟨A0, c0⟩, hz, _⟩ := zip_get hx lm.1
  simp only [getD_of hx]
  have b2 := bw.nm
  have F1 := MobAt_spec d m w x.foe (by omega) (wl d m w)
  cases hk : mobI w x.foe with
  | none =>
    rw [hk] at F1
    simp only [iv] at F1 ⊢
    refine goW ?_
    refine ⟨?_, by simp⟩ <;> intros
    exact ret0 ⟨m, rfl, by rw [List.append_nil]⟩
  | some k =>
    obtain ⟨y, hy, _⟩ := find_get hk
    have hkl := find_lt hk
    rw [hk] at F1
    simp only [iv, getD_of hy] at F1 ⊢
    clear hk
    have F2 := mob_spec t d e m w mt tab S u bw bt R k y hy
    obtain ⟨f1, f2, f3, f4, f5, hpp, hmp⟩ := fg
    obtain ⟨p1, p2, p3, p4⟩ := mprOf_ok hmp y.proto
    have hyh := f5 y (List.mem_of_getElem? hy)
    clear hmp f5
    generalize mprOf tab y.proto = P at *
    have hlv := level_le x.xp (by omega)
    have F3 := Level_spec x.xp (by omega) (by omega)
    have F4 := Roll_spec b A cc L hok Q hQ k0 hl 20 (by decide) (by decide)
    have g1 := roll_range L k0 20 (by decide)
    have hxl := bw.cn x (List.mem_of_getElem? hx)
    generalize rollN L k0 20 = r1 at *
    by_cases hh : r1.1 + levelN x.xp < 11
    · rw [if_pos hh]
      generalize levelN x.xp = lv at *
      have F5 := say_spec t d e S u x.name ([89, 111, 117, 32, 109, 105, 115, 115, 32, 97, 32] ++ P.name ++ [46]) (by omega)
      refine goW ?_
      (repeat' (first | exact trivial | apply And.intro | intro _))
      clear F1 F2 F3 F4 F5
      have bw1 := bw
      have lm1 := lm
      have hx1 := hx
      have hcl1 := hcl
      unfold strikeA
      rw [show (w).chars.getD c default = x from getD_of hx1]
      have g3 := roll_range L (r1.2) 20 (by decide)
      have F2 := Roll_spec b A cc L hok Q hQ (r1.2) hl 20 (by decide) (by decide)
      generalize rollN L (r1.2) 20 = r3 at *
      try simp only
      by_cases h8 : r3.1 < 8
      · rw [if_pos h8]
        have F3 := say_spec t d e (S ++ [(x.name, [89, 111, 117, 32, 109, 105, 115, 115, 32, 97, 32] ++ P.name ++ [46])]) u x.name ([65, 32] ++ P.name ++ [32, 109, 105, 115, 115, 101, 115, 32, 121, 111, 117, 46]) (by simp only [List.length_append, List.length_cons, List.length_nil]; omega)
        refine goW ?_
        (repeat' (first | exact trivial | apply And.intro | intro _))
        all_goals first
          | (exfalso; first | contradiction | omega)
          | exact ret0 (Ps := [ts t d e (S ++ [(x.name, [89, 111, 117, 32, 109, 105, 115, 115, 32, 97, 32] ++ P.name ++ [46])] ++ [(x.name, [65, 32] ++ P.name ++ [32, 109, 105, 115, 115, 101, 115, 32, 121, 111, 117, 46])]) u, wl d m (w), R, blk b 46 [.slice A L.length cc, .int .i64 (r3.2 : Int)], Q]) ⟨m, rfl, by simp only [List.append_assoc]; rfl⟩
      rw [if_neg h8]
      have g4 := roll_range L r3.2 4 (by decide)
      have F3 := Roll_spec b A cc L hok Q hQ r3.2 hl 4 (by decide) (by decide)
      generalize rollN L r3.2 4 = r4 at *
      have F5 := Power_spec t d e m (w) mt tab (S ++ [(x.name, [89, 111, 117, 32, 109, 105, 115, 115, 32, 97, 32] ++ P.name ++ [46])]) u bw1 bt R x.name 2
      have g5 := power_ok hpp (w) x.name 2
      generalize powerN tab (w) x.name 2 = pw at *
      have F6 := say_spec t d e (S ++ [(x.name, [89, 111, 117, 32, 109, 105, 115, 115, 32, 97, 32] ++ P.name ++ [46])]) u x.name ([65, 32] ++ P.name ++ [32, 104, 105, 116, 115, 32, 121, 111, 117, 46]) (by simp only [List.length_append, List.length_cons, List.length_nil]; omega)
      try simp only
      by_cases hd : P.power + r4.1 - pw < 1
      · simp only [if_pos hd]
        have bw2 := bw_setc bw1 hx1 { x with hp := x.hp - 1 } rfl
        have lm2 := laid_setc lm1 c { x with hp := x.hp - 1 }
        rw [setC_eq hx1]
        by_cases hdie : x.hp - 1 < 1
        · rw [if_pos hdie]
          have F8 := dies_spec t d e m { w with chars := (w).chars.set c { x with hp := x.hp - 1 } } mt tab (S ++ [(x.name, [89, 111, 117, 32, 109, 105, 115, 115, 32, 97, 32] ++ P.name ++ [46])] ++ [(x.name, [65, 32] ++ P.name ++ [32, 104, 105, 116, 115, 32, 121, 111, 117, 46])]) u bw2 bt lm2 R c { x with hp := x.hp - 1 } (by rw [List.getElem?_set_self hcl1]) (by simp only [List.length_append, List.length_cons, List.length_nil]; omega)
          refine goW ?_
          (repeat' (first | exact trivial | apply And.intro | intro _))
          all_goals first
            | (exfalso; first | contradiction | omega)
            | exact ret0 (Ps := [ts t d e (S ++ [(x.name, [89, 111, 117, 32, 109, 105, 115, 115, 32, 97, 32] ++ P.name ++ [46])] ++ [(x.name, [65, 32] ++ P.name ++ [32, 104, 105, 116, 115, 32, 121, 111, 117, 46])] ++ (diesA tab { w with chars := (w).chars.set c { x with hp := x.hp - 1 } } c).2) u, wl d m (diesA tab { w with chars := (w).chars.set c { x with hp := x.hp - 1 } } c).1, R, blk b 46 [.slice A L.length cc, .int .i64 (r4.2 : Int)], Q]) ⟨m, rfl, by simp only [List.append_assoc]; rfl⟩
        · rw [if_neg hdie]
          refine goW ?_
          (repeat' (first | exact trivial | apply And.intro | intro _))
          all_goals first
            | (exfalso; first | contradiction | omega)
            | exact ret0 (Ps := [ts t d e (S ++ [(x.name, [89, 111, 117, 32, 109, 105, 115, 115, 32, 97, 32] ++ P.name ++ [46])] ++ [(x.name, [65, 32] ++ P.name ++ [32, 104, 105, 116, 115, 32, 121, 111, 117, 46])]) u, wl d m { w with chars := (w).chars.set c { x with hp := x.hp - 1 } }, R, blk b 46 [.slice A L.length cc, .int .i64 (r4.2 : Int)], Q]) ⟨m, rfl, by simp only [List.append_assoc]; rfl⟩
      · simp only [if_neg hd]
        have bw2 := bw_setc bw1 hx1 { x with hp := x.hp - (P.power + r4.1 - pw) } rfl
        have lm2 := laid_setc lm1 c { x with hp := x.hp - (P.power + r4.1 - pw) }
        rw [setC_eq hx1]
        by_cases hdie : x.hp - (P.power + r4.1 - pw) < 1
        · rw [if_pos hdie]
          have F8 := dies_spec t d e m { w with chars := (w).chars.set c { x with hp := x.hp - (P.power + r4.1 - pw) } } mt tab (S ++ [(x.name, [89, 111, 117, 32, 109, 105, 115, 115, 32, 97, 32] ++ P.name ++ [46])] ++ [(x.name, [65, 32] ++ P.name ++ [32, 104, 105, 116, 115, 32, 121, 111, 117, 46])]) u bw2 bt lm2 R c { x with hp := x.hp - (P.power + r4.1 - pw) } (by rw [List.getElem?_set_self hcl1]) (by simp only [List.length_append, List.length_cons, List.length_nil]; omega)
          refine goW ?_
          (repeat' (first | exact trivial | apply And.intro | intro _))
          all_goals first
            | (exfalso; first | contradiction | omega)
            | exact ret0 (Ps := [ts t d e (S ++ [(x.name, [89, 111, 117, 32, 109, 105, 115, 115, 32, 97, 32] ++ P.name ++ [46])] ++ [(x.name, [65, 32] ++ P.name ++ [32, 104, 105, 116, 115, 32, 121, 111, 117, 46])] ++ (diesA tab { w with chars := (w).chars.set c { x with hp := x.hp - (P.power + r4.1 - pw) } } c).2) u, wl d m (diesA tab { w with chars := (w).chars.set c { x with hp := x.hp - (P.power + r4.1 - pw) } } c).1, R, blk b 46 [.slice A L.length cc, .int .i64 (r4.2 : Int)], Q]) ⟨m, rfl, by simp only [List.append_assoc]; rfl⟩
        · rw [if_neg hdie]
          refine goW ?_
          (repeat' (first | exact trivial | apply And.intro | intro _))
          all_goals first
            | (exfalso; first | contradiction | omega)
            | exact ret0 (Ps := [ts t d e (S ++ [(x.name, [89, 111, 117, 32, 109, 105, 115, 115, 32, 97, 32] ++ P.name ++ [46])] ++ [(x.name, [65, 32] ++ P.name ++ [32, 104, 105, 116, 115, 32, 121, 111, 117, 46])]) u, wl d m { w with chars := (w).chars.set c { x with hp := x.hp - (P.power + r4.1 - pw) } }, R, blk b 46 [.slice A L.length cc, .int .i64 (r4.2 : Int)], Q]) ⟨m, rfl, by simp only [List.append_assoc]; rfl⟩
    rw [if_neg hh]
    generalize levelN x.xp = lv at *
    have F5 := say_spec t d e S u x.name ([89, 111, 117, 32, 104, 105, 116, 32, 97, 32] ++ P.name ++ [46]) (by omega)
    have g6 := roll_range L r1.2 6 (by decide)
    have F6 := Roll_spec b A cc L hok Q hQ r1.2 hl 6 (by decide) (by decide)
    generalize rollN L r1.2 6 = r2 at *
    have F7 := Power_spec t d e m w mt tab (S ++ [(x.name, [89, 111, 117, 32, 104, 105, 116, 32, 97, 32] ++ P.name ++ [46])]) u bw bt R x.name 1
    have g7 := power_ok hpp w x.name 1
    generalize powerN tab w x.name 1 = pw1 at *
    try simp only
    rw [setM_eq hy]
    try simp only
    rw [show y.hp - (r2.1 + pw1) = y.hp + -(r2.1 + pw1) from Int.sub_eq_add_neg]
    have bw1 := bw_setm bw k { y with hp := y.hp + -(r2.1 + pw1) }
    have lm1 : Laid m { w with mobs := w.mobs.set k { y with hp := y.hp + -(r2.1 + pw1) } } := lm
    have hx1 : ({ w with mobs := w.mobs.set k { y with hp := y.hp + -(r2.1 + pw1) } } : Wld).chars[c]? = some x := hx
    have hcl1 := hcl
    by_cases hs : y.hp + -(r2.1 + pw1) < 1
    · rw [if_pos hs]
      have F8 := slain_spec t d e m { w with mobs := w.mobs.set k { y with hp := y.hp + -(r2.1 + pw1) } } (S ++ [(x.name, [89, 111, 117, 32, 104, 105, 116, 32, 97, 32] ++ P.name ++ [46])]) u bw1 lm1 c k x { y with hp := y.hp + -(r2.1 + pw1) } P hx1 (by rw [List.getElem?_set_self hkl]) f1 f2 p1 p2 f4 p4 (by simp only [List.length_append, List.length_cons, List.length_nil]; omega)
      refine goW ?_
      (repeat' (first | exact trivial | apply And.intro | intro _))
      all_goals first
        | (exfalso; first | contradiction | omega)
        | (rename Lay => m2
           exact ret0 (Ps := [ts t d e (S ++ [(x.name, [89, 111, 117, 32, 104, 105, 116, 32, 97, 32] ++ P.name ++ [46])] ++ (slainA { w with mobs := w.mobs.set k { y with hp := y.hp + -(r2.1 + pw1) } } c k P).2) u, wl d m2 (slainA { w with mobs := w.mobs.set k { y with hp := y.hp + -(r2.1 + pw1) } } c k P).1, R, blk b 46 [.slice A L.length cc, .int .i64 (r2.2 : Int)], Q]) ⟨m2, rfl, by simp only [List.append_assoc]; rfl⟩)
    · rw [if_neg hs]
      refine goW ?_
      (repeat' (first | exact trivial | apply And.intro | intro _))
      clear F1 F2 F3 F4 F5 F6 F7
      unfold strikeA
      rw [show (({ w with mobs := w.mobs.set k { y with hp := y.hp + -(r2.1 + pw1) } } : Wld)).chars.getD c default = x from getD_of hx1]
      have g3 := roll_range L (r2.2) 20 (by decide)
      have F2 := Roll_spec b A cc L hok Q hQ (r2.2) hl 20 (by decide) (by decide)
      generalize rollN L (r2.2) 20 = r3 at *
      try simp only
      by_cases h8 : r3.1 < 8
      · rw [if_pos h8]
        have F3 := say_spec t d e (S ++ [(x.name, [89, 111, 117, 32, 104, 105, 116, 32, 97, 32] ++ P.name ++ [46])]) u x.name ([65, 32] ++ P.name ++ [32, 109, 105, 115, 115, 101, 115, 32, 121, 111, 117, 46]) (by simp only [List.length_append, List.length_cons, List.length_nil]; omega)
        refine goW ?_
        (repeat' (first | exact trivial | apply And.intro | intro _))
        all_goals first
          | (exfalso; first | contradiction | omega)
          | exact ret0 (Ps := [ts t d e (S ++ [(x.name, [89, 111, 117, 32, 104, 105, 116, 32, 97, 32] ++ P.name ++ [46])] ++ [(x.name, [65, 32] ++ P.name ++ [32, 109, 105, 115, 115, 101, 115, 32, 121, 111, 117, 46])]) u, wl d m (({ w with mobs := w.mobs.set k { y with hp := y.hp + -(r2.1 + pw1) } } : Wld)), R, blk b 46 [.slice A L.length cc, .int .i64 (r3.2 : Int)], Q]) ⟨m, rfl, by simp only [List.append_assoc]; rfl⟩
      rw [if_neg h8]
      have g4 := roll_range L r3.2 4 (by decide)
      have F3 := Roll_spec b A cc L hok Q hQ r3.2 hl 4 (by decide) (by decide)
      generalize rollN L r3.2 4 = r4 at *
      have F5 := Power_spec t d e m (({ w with mobs := w.mobs.set k { y with hp := y.hp + -(r2.1 + pw1) } } : Wld)) mt tab (S ++ [(x.name, [89, 111, 117, 32, 104, 105, 116, 32, 97, 32] ++ P.name ++ [46])]) u bw1 bt R x.name 2
      have g5 := power_ok hpp (({ w with mobs := w.mobs.set k { y with hp := y.hp + -(r2.1 + pw1) } } : Wld)) x.name 2
      generalize powerN tab (({ w with mobs := w.mobs.set k { y with hp := y.hp + -(r2.1 + pw1) } } : Wld)) x.name 2 = pw at *
      have F6 := say_spec t d e (S ++ [(x.name, [89, 111, 117, 32, 104, 105, 116, 32, 97, 32] ++ P.name ++ [46])]) u x.name ([65, 32] ++ P.name ++ [32, 104, 105, 116, 115, 32, 121, 111, 117, 46]) (by simp only [List.length_append, List.length_cons, List.length_nil]; omega)
      try simp only
      by_cases hd : P.power + r4.1 - pw < 1
      · simp only [if_pos hd]
        have bw2 := bw_setc bw1 hx1 { x with hp := x.hp - 1 } rfl
        have lm2 := laid_setc lm1 c { x with hp := x.hp - 1 }
        rw [setC_eq hx1]
        by_cases hdie : x.hp - 1 < 1
        · rw [if_pos hdie]
          have F8 := dies_spec t d e m { ({ w with mobs := w.mobs.set k { y with hp := y.hp + -(r2.1 + pw1) } } : Wld) with chars := (({ w with mobs := w.mobs.set k { y with hp := y.hp + -(r2.1 + pw1) } } : Wld)).chars.set c { x with hp := x.hp - 1 } } mt tab (S ++ [(x.name, [89, 111, 117, 32, 104, 105, 116, 32, 97, 32] ++ P.name ++ [46])] ++ [(x.name, [65, 32] ++ P.name ++ [32, 104, 105, 116, 115, 32, 121, 111, 117, 46])]) u bw2 bt lm2 R c { x with hp := x.hp - 1 } (by rw [List.getElem?_set_self hcl1]) (by simp only [List.length_append, List.length_cons, List.length_nil]; omega)
          refine goW ?_
          (repeat' (first | exact trivial | apply And.intro | intro _))
          all_goals first
            | (exfalso; first | contradiction | omega)
            | exact ret0 (Ps := [ts t d e (S ++ [(x.name, [89, 111, 117, 32, 104, 105, 116, 32, 97, 32] ++ P.name ++ [46])] ++ [(x.name, [65, 32] ++ P.name ++ [32, 104, 105, 116, 115, 32, 121, 111, 117, 46])] ++ (diesA tab { ({ w with mobs := w.mobs.set k { y with hp := y.hp + -(r2.1 + pw1) } } : Wld) with chars := (({ w with mobs := w.mobs.set k { y with hp := y.hp + -(r2.1 + pw1) } } : Wld)).chars.set c { x with hp := x.hp - 1 } } c).2) u, wl d m (diesA tab { ({ w with mobs := w.mobs.set k { y with hp := y.hp + -(r2.1 + pw1) } } : Wld) with chars := (({ w with mobs := w.mobs.set k { y with hp := y.hp + -(r2.1 + pw1) } } : Wld)).chars.set c { x with hp := x.hp - 1 } } c).1, R, blk b 46 [.slice A L.length cc, .int .i64 (r4.2 : Int)], Q]) ⟨m, rfl, by simp only [List.append_assoc]; rfl⟩
        · rw [if_neg hdie]
          refine goW ?_
          (repeat' (first | exact trivial | apply And.intro | intro _))
          all_goals first
            | (exfalso; first | contradiction | omega)
            | exact ret0 (Ps := [ts t d e (S ++ [(x.name, [89, 111, 117, 32, 104, 105, 116, 32, 97, 32] ++ P.name ++ [46])] ++ [(x.name, [65, 32] ++ P.name ++ [32, 104, 105, 116, 115, 32, 121, 111, 117, 46])]) u, wl d m { ({ w with mobs := w.mobs.set k { y with hp := y.hp + -(r2.1 + pw1) } } : Wld) with chars := (({ w with mobs := w.mobs.set k { y with hp := y.hp + -(r2.1 + pw1) } } : Wld)).chars.set c { x with hp := x.hp - 1 } }, R, blk b 46 [.slice A L.length cc, .int .i64 (r4.2 : Int)], Q]) ⟨m, rfl, by simp only [List.append_assoc]; rfl⟩
      · simp only [if_neg hd]
        have bw2 := bw_setc bw1 hx1 { x with hp := x.hp - (P.power + r4.1 - pw) } rfl
        have lm2 := laid_setc lm1 c { x with hp := x.hp - (P.power + r4.1 - pw) }
        rw [setC_eq hx1]
        by_cases hdie : x.hp - (P.power + r4.1 - pw) < 1
        · rw [if_pos hdie]
          have F8 := dies_spec t d e m { ({ w with mobs := w.mobs.set k { y with hp := y.hp + -(r2.1 + pw1) } } : Wld) with chars := (({ w with mobs := w.mobs.set k { y with hp := y.hp + -(r2.1 + pw1) } } : Wld)).chars.set c { x with hp := x.hp - (P.power + r4.1 - pw) } } mt tab (S ++ [(x.name, [89, 111, 117, 32, 104, 105, 116, 32, 97, 32] ++ P.name ++ [46])] ++ [(x.name, [65, 32] ++ P.name ++ [32, 104, 105, 116, 115, 32, 121, 111, 117, 46])]) u bw2 bt lm2 R c { x with hp := x.hp - (P.power + r4.1 - pw) } (by rw [List.getElem?_set_self hcl1]) (by simp only [List.length_append, List.length_cons, List.length_nil]; omega)
          refine goW ?_
          (repeat' (first | exact trivial | apply And.intro | intro _))
          all_goals first
            | (exfalso; first | contradiction | omega)
            | exact ret0 (Ps := [ts t d e (S ++ [(x.name, [89, 111, 117, 32, 104, 105, 116, 32, 97, 32] ++ P.name ++ [46])] ++ [(x.name, [65, 32] ++ P.name ++ [32, 104, 105, 116, 115, 32, 121, 111, 117, 46])] ++ (diesA tab { ({ w with mobs := w.mobs.set k { y with hp := y.hp + -(r2.1 + pw1) } } : Wld) with chars := (({ w with mobs := w.mobs.set k { y with hp := y.hp + -(r2.1 + pw1) } } : Wld)).chars.set c { x with hp := x.hp - (P.power + r4.1 - pw) } } c).2) u, wl d m (diesA tab { ({ w with mobs := w.mobs.set k { y with hp := y.hp + -(r2.1 + pw1) } } : Wld) with chars := (({ w with mobs := w.mobs.set k { y with hp := y.hp + -(r2.1 + pw1) } } : Wld)).chars.set c { x with hp := x.hp - (P.power + r4.1 - pw) } } c).1, R, blk b 46 [.slice A L.length cc, .int .i64 (r4.2 : Int)], Q]) ⟨m, rfl, by simp only [List.append_assoc]; rfl⟩
        · rw [if_neg hdie]
          refine goW ?_
          (repeat' (first | exact trivial | apply And.intro | intro _))
          all_goals first
            | (exfalso; first | contradiction | omega)
            | exact ret0 (Ps := [ts t d e (S ++ [(x.name, [89, 111, 117, 32, 104, 105, 116, 32, 97, 32] ++ P.name ++ [46])] ++ [(x.name, [65, 32] ++ P.name ++ [32, 104, 105, 116, 115, 32, 121, 111, 117, 46])]) u, wl d m { ({ w with mobs := w.mobs.set k { y with hp := y.hp + -(r2.1 + pw1) } } : Wld) with chars := (({ w with mobs := w.mobs.set k { y with hp := y.hp + -(r2.1 + pw1) } } : Wld)).chars.set c { x with hp := x.hp - (P.power + r4.1 - pw) } }, R, blk b 46 [.slice A L.length cc, .int .i64 (r4.2 : Int)], Q]) ⟨m, rfl, by simp only [List.append_assoc]; rfl⟩
end
end Go.Proofs.YtflmbhkjhfmeoaaGreat
