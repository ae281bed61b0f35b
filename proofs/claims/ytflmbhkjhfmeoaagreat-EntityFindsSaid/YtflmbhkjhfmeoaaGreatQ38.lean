/-
  Walks and laws joined: WdTick WdInv4 WdInv5 LnLines WdTalk EnBeg WdInv6 EnCut EnFnd.
-/
import Derived.Test.YtflmbhkjhfmeoaaGreatQ33
import Derived.Test.YtflmbhkjhfmeoaaGreatQ21
import Derived.Test.YtflmbhkjhfmeoaaGreatQ39
import Derived.Test.YtflmbhkjhfmeoaaGreatQ40
import Derived.Test.YtflmbhkjhfmeoaaGreatQ24
import Derived.Test.YtflmbhkjhfmeoaaGreatQ20
import Derived.Test.YtflmbhkjhfmeoaaGreatQ16
import Derived.Test.YtflmbhkjhfmeoaaGreatQ26
import Derived.Test.YtflmbhkjhfmeoaaGreatQ28
import Derived.Test.YtflmbhkjhfmeoaaGreatQ19
import Derived.Test.YtflmbhkjhfmeoaaGreatQ10
import Derived.Test.YtflmbhkjhfmeoaaGreatQ05
set_option linter.unusedVariables false
set_option linter.unusedSimpArgs false
namespace Go.Proofs.YtflmbhkjhfmeoaaGreat
open Go.SL
set_option maxHeartbeats 8000000
set_option maxRecDepth 20000
@[reducible] def nowW (w : Wld) : Wld := { w with now := w.now + 1 }
def restW (tab : Tab) (L : List Int) (w : Wld) : Wld := restA (roundA tab L (nowW w)).1.1
def backW (tab : Tab) (L : List Int) (w : Wld) : Wld := if (restW tab L w).now.tmod 10 = 0 then resetA tab (restW tab L w) else restW tab L w
structure Tik (tab : Tab) (L : List Int) (w : Wld) (I J : Nat → Wld → Prop) : Prop where
  hI : Rnd tab L I
  hJ : Ends J
  now : -4611686018427387904 ≤ w.now ∧ w.now ≤ 4611686018427387000
  w0 : I 0 (nowW w)
  b1 : Bw (roundA tab L (nowW w)).1.1
  r1 : ∀ x ∈ (roundA tab L (nowW w)).1.1.chars, (-1000000000000000000 ≤ x.xp ∧ x.xp ≤ 1000000000000000000) ∧ (-1000000000000000000 ≤ x.hp ∧ x.hp ≤ 1000000000000000000)
  s1 : (roundA tab L (nowW w)).1.2.length ≤ 80000
  b2 : Bw (restW tab L w)
  m2 : (restW tab L w).mobs.length ≤ 90000
  n2 : 0 ≤ (restW tab L w).next ∧ (restW tab L w).next ≤ 4611686018427387904
  w4 : J 0 (backW tab L w)
  tm : tab.mobs.length ≤ 1000
section
variable (t d e : Nat) (m : Lay) (w : Wld) (mt : Tay) (tab : Tab) (S : List Sy) (u : Int)
theorem tickA_eq (tab : Tab) (L : List Int) (w : Wld) : tickA tab L w = ((endA (backW tab L w)).1, (roundA tab L (nowW w)).1.2 ++ (endA (backW tab L w)).2) := rfl
theorem Tick_spec (bt : Bt tab) (L : List Int) (I J : Nat → Wld → Prop) (tk : Tik tab L w I J) (R : HProp) [hr : RT R e mt tab] (A : Option Addr) (cc : Nat) (hok : ∀ n ∈ L, -9223372036854775808 ≤ n ∧ n ≤ 9223372036854775807) (Q : HProp) (hQ : Reads Q E64 A L) (hl : L.length ≤ 100000) (hS : S.length ≤ 10000) :
    Trip Tryz.prog 111 [.pointer (some ⟨t, 0, none⟩), .slice A L.length cc] [ts t d e S u, wl d m w, R, Q] (fun v Ps => ∃ m', v = .tuple #[] ∧ Ps = [ts t d e (S ++ (tickA tab L w).2) u, wl d m' (tickA tab L w).1, R, Q]) := by
  refine Trip.of (m := 34) Tryz.func111 rfl rfl rfl ?_
  intro o Rs
  simp only [List.cons_append, List.nil_append, enumFrom]
  rw [tickA_eq]
  obtain ⟨hI, hJ, hn, h0, b1, r1, s1, b2, m2, n2, w4, tm⟩ := tk
  obtain ⟨r, hr⟩ : ∃ r, r = roundA tab L (nowW w) := ⟨_, rfl⟩
  simp only [backW, restW] at w4 b2 m2 n2 ⊢
  simp only [← hr] at b1 r1 s1 w4 b2 m2 n2 ⊢
  refine goW ?_
  (repeat' (first | exact trivial | apply And.intro | intro _))
  rename Nat => b
  refine cal (Round_spec t d e m (nowW w) mt tab S u bt I L hI h0 R b A cc hok Q hQ hl (by omega)) ?_
  rintro _ _ ⟨m1, rfl, rfl⟩
  simp only [List.cons_append, List.nil_append]
  simp only [← hr]
  refine wwl (d := d) (m := m1) (t := r.1.1) fun lm1 => ?_
  have F2 := Rest_spec t d e m1 r.1.1 (S ++ r.1.2) u b1 lm1 r1
  generalize restA r.1.1 = w2 at *
  refine goW ?_
  (repeat' (first | exact trivial | apply And.intro | intro _))
  refine W.rem (z := w2.now.tmod 10) rfl rfl (by decide) rfl rfl ?_
  have F3 := Reset_spec t d e m1 w2 mt tab (S ++ r.1.2) u b2 m2 tm n2 R
  by_cases hz : w2.now.tmod 10 = 0
  · rw [if_pos hz] at *
    generalize w2.now.tmod 10 = zz0 at *
    subst hz
    refine goW ?_
    (repeat' (first | exact trivial | apply And.intro | intro _))
    rename Lay => m3
    refine cal (End_spec t d e m3 (resetA tab w2) (S ++ r.1.2) u J hJ w4 (by rw [List.length_append]; omega)) ?_
    rintro _ _ ⟨m4, rfl, rfl⟩
    simp only [List.cons_append, List.nil_append]
    refine goW ?_
    (repeat' (first | exact trivial | apply And.intro | intro _))
    all_goals exact ret0 (Ps := [ts t d e (S ++ r.1.2 ++ (endA (resetA tab w2)).2) u, wl d m4 (endA (resetA tab w2)).1, R, Q]) ⟨m4, rfl, by rw [List.append_assoc]⟩
  · rw [if_neg hz] at *
    generalize w2.now.tmod 10 = zz0 at *
    refine goW ?_
    (repeat' (first | exact trivial | apply And.intro | intro _))
    refine cal (End_spec t d e m1 w2 (S ++ r.1.2) u J hJ w4 (by rw [List.length_append]; omega)) ?_
    rintro _ _ ⟨m4, rfl, rfl⟩
    simp only [List.cons_append, List.nil_append]
    refine goW ?_
    (repeat' (first | exact trivial | apply And.intro | intro _))
    all_goals exact ret0 (Ps := [ts t d e (S ++ r.1.2 ++ (endA w2).2) u, wl d m4 (endA w2).1, R, Q]) ⟨m4, rfl, by rw [List.append_assoc]⟩
end
end Go.Proofs.YtflmbhkjhfmeoaaGreat
namespace Go.Proofs.YtflmbhkjhfmeoaaGreat
section
variable {t : Tab} {s K : Nat} {w : Wld}
theorem others_len0 (w : Wld) (room : Int) (but text : Tx) : (othersL w room but text).length ≤ w.chars.length := Nat.le_trans (oth_len ..) (pos_len _ _)
theorem roll_from (L : List Int) (k : Nat) (sides : Int) (h1 : 1 ≤ sides) : 1 ≤ (rollN L k sides).1 := by
  unfold rollN
  split
  · simp only; omega
  · have h2 : -sides < (L.getD k 0).tmod sides := by
      have := Int.lt_tmod_of_pos (L.getD k 0) (show (0 : Int) < sides by omega)
      omega
    simp only; split <;> omega
theorem power_from (g : Good t) (w : Wld) (name : Tx) (slot : Int) : 0 ≤ powerN t w name slot := by
  unfold powerN
  split
  · omega
  · split
    · omega
    · unfold proOf
      split
      · rename_i k hk
        obtain ⟨p, hp, _⟩ := find_get hk
        rw [getD_of hp]
        exact (g.po p (List.mem_of_getElem? hp)).pw.1
      · decide
theorem mpr_from (g : Good t) (id : Int) : (0 ≤ (mprOf t id).xp ∧ (mprOf t id).xp ≤ 10000) ∧ 0 ≤ (mprOf t id).gold ∧ (mprOf t id).gold ≤ 1073741824 := by
  unfold mprOf
  split
  · rename_i k hk
    obtain ⟨p, hp, _⟩ := find_get hk
    rw [getD_of hp]
    exact ⟨(g.mo p (List.mem_of_getElem? hp)).xp, (g.mo p (List.mem_of_getElem? hp)).go⟩
  · simp only; omega
theorem putW_at {i j : Nat} {x : Thg} (h : w.things[i]? = some x) (hp : x.place ≠ 4) (room : Int) : ∃ y, (putW w j 1 room []).things[i]? = some y ∧ y.place ≠ 4 := by
  obtain ⟨hi, _⟩ := List.getElem?_eq_some_iff.1 h
  simp only [putW, setT]
  by_cases hij : j = i
  · subst hij
    refine ⟨_, List.getElem?_set_self hi, ?_⟩
    simp
  · exact ⟨x, by rw [List.getElem?_set_ne hij]; exact h, hp⟩
theorem fall_iv (room : Int) : ∀ (l : List Nat) {w : Wld}, Iv t s K w → (∀ i ∈ l, ∃ x, w.things[i]? = some x ∧ x.place ≠ 4) → Iv t s K (fallGo room l w)
  | [], _, h, _ => h
  | i :: r, w, h, hp => by
    rw [fallGo]
    obtain ⟨x, hx, hxp⟩ := hp i List.mem_cons_self
    split
    · refine fall_iv room r (h.putW hx hxp _ _ _) fun j hj => ?_
      obtain ⟨y, hy, hyp⟩ := hp j (List.mem_cons_of_mem _ hj)
      exact putW_at hy hyp room
    · exact h
theorem fall_cs (room : Int) : ∀ (l : List Nat) (w : Wld) (cs : List Chr), fallGo room l { w with chars := cs } = { fallGo room l w with chars := cs }
  | [], _, _ => rfl
  | i :: r, w, cs => by
    rw [fallGo, fallGo]
    have e1 : hereL { w with chars := cs } room = hereL w room := rfl
    rw [e1]
    split
    · exact fall_cs room r (putW w i 1 room []) cs
    · rfl
theorem fall_chars (room : Int) : ∀ (l : List Nat) (w : Wld), (fallGo room l w).chars = w.chars
  | [], _ => rfl
  | i :: r, w => by
    rw [fallGo]
    split
    · rw [fall_chars room r]; rfl
    · rfl
structure Ft (t : Tab) (s K : Nat) (w : Wld) (r : Wld × List Sy) (n : Nat) : Prop where
  iv : Iv t s K r.1
  nc : r.1.chars.length = w.chars.length
  sl : r.2.length ≤ n
theorem dies_ft (h : Iv t s K w) {c : Nat} {x : Chr} (hx : w.chars[c]? = some x) (d : Int) : Ft t s K w (diesA t (setC w c fun y => { y with hp := y.hp - d }) c) 30 := by
  have hcl := (List.getElem?_eq_some_iff.1 hx).1
  have k := h.ck hx
  have hxs : (w.chars.set c { x with hp := x.hp - d })[c]? = some { x with hp := x.hp - d } := List.getElem?_set_self hcl
  have e0 : (Go.Proofs.YtflmbhkjhfmeoaaGreat.setC w c fun y => { y with hp := y.hp - d }) = { w with chars := w.chars.set c { x with hp := x.hp - d } } := by rw [Go.Proofs.YtflmbhkjhfmeoaaGreat.setC, getD_of hx]
  rw [e0]
  have h1 := fall_iv (t := t) (s := s) (K := K) x.room (ofL w x.name 2) h fun i hi => by
    obtain ⟨y, hy, hp, _⟩ := of_at hi
    exact ⟨y, hy, by omega⟩
  have hch := fall_chars x.room (ofL w x.name 2) w
  have e1 : (diesA t { w with chars := w.chars.set c { x with hp := x.hp - d } } c).1 = { fallGo x.room (ofL w x.name 2) w with chars := w.chars.set c { x with hp := 1, room := startR t, foe := 0 } } := by
    unfold diesA
    simp only [getD_of hxs]
    show setC (fallGo x.room (ofL w x.name 2) { w with chars := w.chars.set c { x with hp := x.hp - d } }) c _ = _
    rw [fall_cs]
    simp only [Go.Proofs.YtflmbhkjhfmeoaaGreat.setC, getD_of hxs, List.set_set]
  refine ⟨?_, ?_, ?_⟩
  · rw [e1]
    refine ⟨h1.w0.chars (by rw [hch]; exact map_set_same _ hx rfl) fun y hy => ?_, h1.lt⟩
    rcases mem_set hy with hy | rfl
    · exact h.w0.ch y hy
    · exact ⟨k.nm, k.go, k.ba, k.xp, by simp only; omega, k.dn⟩
  · rw [e1]; simp only [List.length_set]
  · unfold diesA
    simp only [List.length_append, List.length_cons, List.length_nil]
    have h2 := others_len0 { w with chars := w.chars.set c { x with hp := x.hp - d } } ((w.chars.set c { x with hp := x.hp - d }).getD c default).room ((w.chars.set c { x with hp := x.hp - d }).getD c default).name (capT ((w.chars.set c { x with hp := x.hp - d }).getD c default).name ++ [32, 100, 105, 101, 115, 46])
    simp only [List.length_set] at h2
    have := h.w0.nc
    omega
theorem strike_ft (h : Iv t s K w) {c : Nat} {x : Chr} (hx : w.chars[c]? = some x) (L : List Int) (m : Mpr) (at0 : Nat) : Ft t s K w (strikeA t L w c m at0).1 40 := by
  have k := h.ck hx
  unfold strikeA
  simp only [getD_of hx]
  split
  · exact ⟨h, rfl, by simp⟩
  · obtain ⟨d, hd, hde⟩ : ∃ d, 1 ≤ d ∧ d = (if m.power + (rollN L (rollN L at0 20).2 4).1 - powerN t w x.name 2 < 1 then 1 else m.power + (rollN L (rollN L at0 20).2 4).1 - powerN t w x.name 2) := ⟨_, by split <;> omega, rfl⟩
    rw [← hde]
    split
    · have h1 := dies_ft (t := t) h hx d
      exact ⟨h1.iv, h1.nc, by have := h1.sl; simp only [List.length_append, List.length_cons, List.length_nil]; omega⟩
    · refine ⟨h.setC hx (fun y => { y with hp := y.hp - d }) rfl ⟨k.nm, k.go, k.ba, k.xp, by simp only; have := k.hp; omega, k.dn⟩, by show (w.chars.set c _).length = _; rw [List.length_set], by simp⟩
theorem Iw.mobs (h : Iw t s K w) {ms : List Mob} (hl : ms.length ≤ K) (hm : ∀ y ∈ ms, 1 ≤ y.hp ∧ y.hp ≤ 10000) : Iw t s K { w with mobs := ms } := { h with nm := hl, mo := hm }
theorem unfoe_ok {id : Int} {y : Chr} (h : Cok s y) : Cok s (unfoe id y) ∧ (unfoe id y).name = y.name := by
  unfold unfoe
  split
  · exact ⟨⟨h.nm, h.go, h.ba, h.xp, h.hp, h.dn⟩, rfl⟩
  · exact ⟨h, rfl⟩
theorem unfoe_same (id : Int) (y : Chr) : (unfoe id y).name = y.name ∧ (unfoe id y).gold = y.gold ∧ (unfoe id y).xp = y.xp := by
  unfold unfoe; split <;> exact ⟨rfl, rfl, rfl⟩
theorem fight_ft (g : Good t) (h : Iv t s K w) {c : Nat} {x : Chr} (hx : w.chars[c]? = some x) (L : List Int) (at0 : Nat) : Ft t s (K + 1) w (fightA t L w c at0).1 100 := by
  have hm := h.mono (Nat.le_refl s) (Nat.le_succ K)
  have k := h.ck hx
  unfold fightA
  simp only [getD_of hx]
  split
  · exact ⟨hm, rfl, by simp⟩
  · rename_i k0 hk0
    obtain ⟨y, hy, _⟩ := find_get hk0
    have hyh := h.w0.mo y (List.mem_of_getElem? hy)
    simp only [getD_of hy]
    have gm := mpr_from g y.proto
    generalize mprOf t y.proto = m at *
    split
    · have h1 := strike_ft hm hx L m (rollN L at0 20).2
      exact ⟨h1.iv, h1.nc, by have := h1.sl; simp only [List.length_append, List.length_cons, List.length_nil]; omega⟩
    · have g1 := roll_from L (rollN L at0 20).2 6 (by omega)
      have g2 := power_from g w x.name 1
      generalize rollN L (rollN L at0 20).2 6 = r2 at *
      obtain ⟨hp, hhp⟩ : ∃ hp, hp = y.hp - (r2.1 + powerN t w x.name 1) := ⟨_, rfl⟩
      rw [← hhp]
      have e0 : (setM w k0 fun y => { y with hp := hp }) = { w with mobs := w.mobs.set k0 { y with hp := hp } } := by rw [setM, getD_of hy]
      rw [e0]
      split
      · have hys : (w.mobs.set k0 { y with hp := hp })[k0]? = some { y with hp := hp } := List.getElem?_set_self (List.getElem?_eq_some_iff.1 hy).1
        unfold slainA
        simp only [getD_of hx, getD_of hys]
        have hu := unfoe_same y.id x
        rw [Go.Proofs.YtflmbhkjhfmeoaaGreat.maxGold]
        have hcs : ∀ (xp gold : Int), (0 ≤ xp ∧ xp ≤ 1099511627776) → (0 ≤ gold ∧ gold ≤ 1099511627776) → Iw t s K { w with mobs := (w.mobs.set k0 { y with hp := hp }).eraseIdx k0, chars := (w.chars.map (unfoe y.id)).set c { unfoe y.id x with xp := xp, gold := gold } } := by
          intro xp gold hxp hgo
          have h1 := h.w0.mobs (ms := (w.mobs.set k0 { y with hp := hp }).eraseIdx k0) (Nat.le_trans (List.eraseIdx_sublist _ _).length_le (by rw [List.length_set]; exact h.w0.nm)) fun z hz => by
            rw [List.eraseIdx_set_eq] at hz
            exact h.w0.mo z ((List.eraseIdx_sublist _ _).subset hz)
          refine h1.chars (cs := (w.chars.map (unfoe y.id)).set c { unfoe y.id x with xp := xp, gold := gold }) ?_ fun z hz => ?_
          · refine (map_set_same (fun z : Chr => z.name) (a := unfoe y.id x) (b := { unfoe y.id x with xp := xp, gold := gold }) (by rw [List.getElem?_map, hx]; rfl) rfl).trans ?_
            rw [List.map_map]
            exact List.map_congr_left fun z _ => (unfoe_same y.id z).1
          · rcases mem_set hz with hz | rfl
            · obtain ⟨z0, hz0, rfl⟩ := List.mem_map.1 hz
              exact (unfoe_ok (h.w0.ch z0 hz0)).1
            · have k2 := (unfoe_ok (id := y.id) k).1
              exact ⟨k2.nm, hgo, k2.ba, hxp, k2.hp, k2.dn⟩
        have hl : ∀ (w2 : Wld) (tx ty : Tx), w2.chars.length = w.chars.length → (([(x.name, tx)] : List Sy) ++ ([(x.name, ty)] ++ othersL w2 x.room x.name ty)).length ≤ 100 := by
          intro w2 tx ty he
          have h1 := others_len0 w2 x.room x.name ty
          have := h.w0.nc
          simp only [List.length_append, List.length_cons, List.length_nil]; omega
        have hxp : 0 ≤ (if 1099511627776 < x.xp + m.xp then 1099511627776 else x.xp + m.xp) ∧ (if 1099511627776 < x.xp + m.xp then 1099511627776 else x.xp + m.xp) ≤ 1099511627776 := by have := k.xp; split <;> omega
        generalize (if 1099511627776 < x.xp + m.xp then 1099511627776 else x.xp + m.xp) = xp at *
        by_cases hgo : x.gold + m.gold ≤ 1099511627776
        · simp only [if_pos hgo]
          have h1 := (hcs xp (x.gold + m.gold) hxp (by have := k.go; omega)).mint m.gold (by omega) (by omega)
          refine ⟨⟨h1, h.lt⟩, by simp only [List.length_set, List.length_map], ?_⟩
          simp only [List.length_append, List.length_cons, List.length_nil]
          refine Nat.le_trans (Nat.add_le_add_left (Nat.add_le_add_left (others_len0 _ _ _ _) _) _) ?_
          have := h.w0.nc
          simp only [List.length_set, List.length_map]; omega
        · simp only [if_neg hgo]
          have h1 := (hcs xp x.gold hxp k.go).mono (Nat.le_refl s) (Nat.le_succ K)
          refine ⟨⟨h1, h.lt⟩, by simp only [List.length_set, List.length_map], ?_⟩
          simp only [List.length_append, List.length_cons, List.length_nil]
          refine Nat.le_trans (Nat.add_le_add_left (Nat.add_le_add_left (others_len0 _ _ _ _) _) _) ?_
          have := h.w0.nc
          simp only [List.length_set, List.length_map]; omega
      · have h1 : Iv t s (K + 1) { w with mobs := w.mobs.set k0 { y with hp := hp } } := ⟨hm.w0.mobs (by rw [List.length_set]; exact hm.w0.nm) fun z hz => by
          rcases mem_set hz with hz | rfl
          · exact h.w0.mo z hz
          · simp only; omega, h.lt⟩
        have h2 := strike_ft h1 (x := x) hx L m r2.2
        exact ⟨h2.iv, h2.nc, by have := h2.sl; simp only [List.length_append, List.length_cons, List.length_nil]; omega⟩
theorem round_ft (g : Good t) (h : Iv t s K w) (L : List Int) : ∀ n, n ≤ w.chars.length → Ft t s (K + n) w ((List.range n).foldl (fightIf t L) ((w, []), 0)).1 (100 * n)
  | 0, _ => ⟨h, rfl, Nat.zero_le _⟩
  | n + 1, hn => by
    have ih := round_ft g h L n (by omega)
    rw [List.range_succ, List.foldl_append]
    generalize (List.range n).foldl (fightIf t L) ((w, []), 0) = r at *
    obtain ⟨⟨w1, S1⟩, k1⟩ := r
    obtain ⟨i1, i2, i3⟩ := ih
    simp only at i1 i2 i3
    obtain ⟨x, hx⟩ : ∃ x, w1.chars[n]? = some x := ⟨_, List.getElem?_eq_getElem (by omega)⟩
    simp only [List.foldl_cons, List.foldl_nil, fightIf, getD_of hx]
    split
    · have h1 := fight_ft g i1 hx L k1
      exact ⟨h1.iv, h1.nc.trans i2, by have := h1.sl; simp only [List.length_append]; omega⟩
    · exact ⟨i1.mono (Nat.le_refl s) (by omega), i2, by simp only; omega⟩
theorem iv_rest (h : Iv t s K w) : Iv t s K (restA w) := by
  refine ⟨h.w0.chars (by
    rw [List.map_map]
    refine List.map_congr_left fun z _ => ?_
    simp only [Function.comp, restC]; split <;> rfl) fun x hx => ?_, h.lt⟩
  obtain ⟨y, hy, rfl⟩ := List.mem_map.1 hx
  have k := h.w0.ch y hy
  unfold restC
  split
  · rename_i hc
    obtain ⟨_, _, hc⟩ := hc
    unfold maxHpN levelN at hc
    refine ⟨k.nm, k.go, k.ba, k.xp, ?_, k.dn⟩
    have h1 := k.xp
    have h2 := k.hp
    rw [if_neg (by omega)] at hc
    simp only
    omega
  · exact k
theorem reset_iv (h : Iv t s K w) {m : Mpr} (hm : 1 ≤ m.hp ∧ m.hp ≤ 10000) : Iv t s (K + 1) (resetM w m) := by
  unfold resetM
  split
  · exact h.mono (Nat.le_refl s) (Nat.le_succ K)
  · exact ⟨{ h.w0.mono (Nat.le_refl s) (Nat.le_succ K) with
      nm := by simp only [List.length_append, List.length_cons, List.length_nil]; have := h.w0.nm; omega
      mo := fun y hy => by
        rcases List.mem_append.1 hy with hy | hy
        · exact h.w0.mo y hy
        · rw [List.mem_singleton.1 hy]; exact hm
      tn := fun x hx => by have := h.w0.tn x hx; simp only; omega
      nx := by have := h.w0.nx; simp only; omega }, h.lt⟩
theorem resets_iv : ∀ (l : List Mpr) {K : Nat} {w : Wld}, Iv t s K w → (∀ m ∈ l, 1 ≤ m.hp ∧ m.hp ≤ 10000) → Iv t s (K + l.length) (l.foldl resetM w)
  | [], _, _, h, _ => h
  | a :: l, K, w, h, hm => by
    rw [List.foldl_cons, List.length_cons, show K + (l.length + 1) = K + 1 + l.length by omega]
    exact resets_iv l (reset_iv h (hm a List.mem_cons_self)) fun m hm2 => hm m (List.mem_cons_of_mem _ hm2)
theorem paid_iw (h : Iw t s K w) (l : Lot) (hb : 0 < l.bid ∧ l.bid ≤ 1099511627776) : Iw t s (K + 1) (paidW w l) := by
  unfold paidW
  split
  · exact h.mono (Nat.le_refl s) (Nat.le_succ K)
  · rename_i d hd
    obtain ⟨y, hy, _⟩ := find_get hd
    have k := h.ch y (List.mem_of_getElem? hy)
    simp only [getD_of hy]
    unfold maxGold
    obtain ⟨fee, hf1, hf2, hfe⟩ : ∃ fee, 1 ≤ fee ∧ fee ≤ l.bid ∧ fee = (if l.bid / 20 < 1 then 1 else l.bid / 20) := ⟨_, by split <;> omega, by split <;> omega, rfl⟩
    rw [← hfe]
    have k1 := k.go
    have k2 := k.ba
    split
    · rename_i hg
      have h2 := (h.setC hy (fun y => { y with gold := y.gold + (l.bid - fee) }) rfl ⟨k.nm, by simp only; omega, k.ba, k.xp, k.hp, k.dn⟩).mint (-fee) (by omega) (by omega)
      simp only [← Int.sub_eq_add_neg] at h2
      exact h2
    · obtain ⟨room, hr1, hr2, hr3, hre⟩ : ∃ room, 0 ≤ room ∧ room ≤ l.bid - fee ∧ y.bank + room ≤ 1099511627776 ∧ room = (if l.bid - fee < 1099511627776 - y.bank then l.bid - fee else 1099511627776 - y.bank) := ⟨_, by split <;> omega, by split <;> omega, by split <;> omega, rfl⟩
      rw [← hre]
      have h2 := (h.setC hy (fun y => { y with bank := y.bank + room }) rfl ⟨k.nm, k.go, by simp only; omega, k.xp, k.hp, k.dn⟩).mint (-(fee + (l.bid - fee - room))) (by omega) (by omega)
      simp only [← Int.sub_eq_add_neg] at h2
      exact h2
theorem paid_same (w : Wld) (l : Lot) : (paidW w l).things = w.things ∧ (paidW w l).lots = w.lots ∧ (paidW w l).now = w.now ∧ (paidW w l).chars.map (·.name) = w.chars.map (·.name) := by
  unfold paidW
  split
  · exact ⟨rfl, rfl, rfl, rfl⟩
  · rename_i d hd
    obtain ⟨y, hy, _⟩ := find_get hd
    simp only
    generalize (if l.bid / 20 < 1 then 1 else l.bid / 20) = fee
    split
    · refine ⟨rfl, rfl, rfl, ?_⟩
      simp only [Go.Proofs.YtflmbhkjhfmeoaaGreat.setC, getD_of hy]
      exact map_set_same _ hy rfl
    · refine ⟨rfl, rfl, rfl, ?_⟩
      simp only [Go.Proofs.YtflmbhkjhfmeoaaGreat.setC, getD_of hy]
      exact map_set_same _ hy rfl
structure St (t : Tab) (s K : Nat) (w : Wld) (l : Lot) (r : Wld × List Sy) : Prop where
  iw : Iw t s K r.1
  lo : r.1.lots = w.lots
  sl : r.2.length ≤ 2
  nm : r.1.chars.map (·.name) = w.chars.map (·.name)
  nw : r.1.now = w.now
  th : ∀ y ∈ w.things, y.id ≠ l.thing → y ∈ r.1.things
theorem putW_mem {k : Nat} {x y : Thg} (hx : w.things[k]? = some x) (hy : y ∈ w.things) (hne : y.id ≠ x.id) (place room : Int) (who : Tx) : y ∈ (putW w k place room who).things := by
  obtain ⟨j, hj⟩ := mem_at hy
  simp only [putW, setT]
  refine List.mem_of_getElem? (i := j) ?_
  rw [List.getElem?_set_ne ?_]
  · exact hj
  · rintro rfl
    rw [hx] at hj
    simp only [Option.some.injEq] at hj
    rw [hj] at hne
    exact hne rfl
theorem settle_st (h : Iw t s K w) {l : Lot} (hb : 0 ≤ l.bid ∧ l.bid ≤ 1099511627776) {r : Wld × List Sy} (hs : settleA w l = some r) : St t s (K + 1) w l r := by
  unfold settleA at hs
  simp only at hs
  generalize (if 0 < l.bid then l.bidder else l.seller) = who0 at hs
  split at hs
  · rename_i d k hd hk
    obtain ⟨x, hx, hxi⟩ := find_get hk
    simp only [beq_iff_eq] at hxi
    obtain ⟨w1o, hw1o⟩ : ∃ w1o, w1o = (if loadN w who0 < 10 then some (putW w k 2 0 who0) else if (hereL w (w.chars.getD d default).room).length < 30 then some (putW w k 1 (w.chars.getD d default).room []) else none) := ⟨_, rfl⟩
    rw [← hw1o] at hs
    cases w1o with
    | none => cases hs
    | some w1 =>
      simp only [Option.some.injEq] at hs
      have hp : ∃ p rm who, w1 = putW w k p rm who := by
        split at hw1o
        · simp only [Option.some.injEq] at hw1o; exact ⟨_, _, _, hw1o⟩
        · split at hw1o
          · simp only [Option.some.injEq] at hw1o; exact ⟨_, _, _, hw1o⟩
          · cases hw1o
      obtain ⟨p, rm, who, rfl⟩ := hp
      have h1 := h.putW hx p rm who
      have hth : ∀ y ∈ w.things, y.id ≠ l.thing → y ∈ (putW w k p rm who).things := fun y hy hne => putW_mem hx hy (by rw [hxi]; exact hne) p rm who
      have hlen : ∀ (a b : Prop) [Decidable a] [Decidable b] (u v : Sy), ((if a then [u] else []) ++ (if b then [v] else []) : List Sy).length ≤ 2 := by
        intro a b _ _ u v
        split <;> split <;> simp
      subst hs
      by_cases hb0 : 0 < l.bid
      · have h2 := paid_iw h1 l ⟨hb0, hb.2⟩
        obtain ⟨e1, e2, e3, e4⟩ := paid_same (putW w k p rm who) l
        simp only [if_pos hb0]
        exact ⟨h2, e2, hlen _ _ _ _, e4, e3, fun y hy hne => by rw [e1]; exact hth y hy hne⟩
      · simp only [if_neg hb0]
        exact ⟨h1.mono (Nat.le_refl s) (Nat.le_succ K), rfl, hlen _ _ _ _, rfl, rfl, hth⟩
  · simp only [Option.some.injEq] at hs
    subst hs
    exact ⟨h.mono (Nat.le_refl s) (Nat.le_succ K), rfl, by simp, rfl, rfl, fun _ hy _ => hy⟩
theorem endGo_iv : ∀ (r : List Lot) {K : Nat} {w : Wld} (S : List Sy) (left : List Lot), Iw t s K w → (∀ l ∈ left ++ r, Lk K (w.chars.map (·.name)) l) → (left ++ r).length ≤ 10 → Lth w.things (left ++ r) → Iv t s (K + r.length) (endGo r w S left).1
  | [], K, w, S, left, h, hl, hn, ht => by
    rw [List.append_nil] at hl hn ht
    rw [endGo]
    exact ⟨{ h with nl := hn, lk := hl }, ht⟩
  | l :: r, K, w, S, left, h, hl, hn, ht => by
    have hlk := hl l (List.mem_append_right _ List.mem_cons_self)
    rw [endGo]
    have e0 : K + (l :: r).length = K + 1 + r.length := by rw [List.length_cons]; omega
    rw [e0]
    split
    · have e1 : left ++ l :: r = (left ++ [l]) ++ r := by simp
      rw [e1] at hl hn ht
      exact (endGo_iv (K := K) r S (left ++ [l]) h hl hn ht).mono (Nat.le_refl s) (by omega)
    · split
      · rename_i hno
        have e1 : left ++ { l with ends := w.now + 1 } :: r = (left ++ [{ l with ends := w.now + 1 }]) ++ r := by simp
        have hnw := h.nw
        refine (endGo_iv (K := K) r S (left ++ [{ l with ends := w.now + 1 }]) h (fun y hy => ?_) (by simp only [List.length_append, List.length_cons, List.length_nil] at hn ⊢; omega) ?_).mono (K' := K + 1 + r.length) (Nat.le_refl s) (by omega)
        · simp only [List.append_assoc, List.mem_append, List.mem_cons, List.not_mem_nil, or_false] at hy
          rcases hy with hy | rfl | hy
          · exact hl y (List.mem_append_left _ hy)
          · exact ⟨hlk.bi, hlk.nb, hlk.se, hlk.id, hlk.mi, by simp only; omega⟩
          · exact hl y (List.mem_append_right _ (List.mem_cons_of_mem _ hy))
        · rw [← e1]
          refine ⟨fun y hy => ?_, by have := ht.nd; simp only [List.map_append, List.map_cons] at this ⊢; exact this⟩
          simp only [List.mem_append, List.mem_cons] at hy
          rcases hy with hy | rfl | hy
          · exact ht.th y (List.mem_append_left _ hy)
          · exact ht.th l (List.mem_append_right _ List.mem_cons_self)
          · exact ht.th y (List.mem_append_right _ (List.mem_cons_of_mem _ hy))
      · rename_i x hx
        have st := settle_st h hlk.bi hx
        have hnd := ht.nd
        rw [List.map_append, List.map_cons] at hnd
        obtain ⟨n1, n2, n3⟩ := List.pairwise_append.1 hnd
        rw [List.pairwise_cons] at n2
        have hne : ∀ y ∈ left ++ r, y.thing ≠ l.thing := by
          intro y hy
          rcases List.mem_append.1 hy with hy | hy
          · exact n3 _ (List.mem_map_of_mem hy) _ List.mem_cons_self
          · exact fun e => n2.1 _ (List.mem_map_of_mem hy) e.symm
        have hsub : ∀ y ∈ left ++ r, y ∈ left ++ l :: r := by
          intro y hy
          rcases List.mem_append.1 hy with hy | hy
          · exact List.mem_append_left _ hy
          · exact List.mem_append_right _ (List.mem_cons_of_mem _ hy)
        refine endGo_iv r _ left st.iw (fun y hy => ?_) (by simp only [List.length_append, List.length_cons] at hn ⊢; omega) ⟨fun y hy => ?_, ?_⟩
        · rw [st.nm]; exact (hl y (hsub y hy)).up (Nat.le_succ K)
        · obtain ⟨z, hz, e1, e2⟩ := ht.th y (hsub y hy)
          exact ⟨z, st.th z hz (by rw [e1]; exact hne y hy), e1, e2⟩
        · rw [List.map_append]
          exact List.pairwise_append.2 ⟨n1, n2.2, fun a ha b hb => n3 a ha b (List.mem_cons_of_mem _ hb)⟩
theorem iv_now (h : Iv t s K w) : Iv t s (K + 1) { w with now := w.now + 1 } :=
  ⟨{ h.w0.mono (Nat.le_refl s) (Nat.le_succ K) with nw := by have := h.w0.nw; simp only; omega }, h.lt⟩
theorem iv_tick (g : Good t) (h : Iv t s K w) (L : List Int) : Iv t s (K + 100) (tickA t L w).1 := by
  unfold tickA
  have h0 := iv_now h
  have hnc := h0.w0.nc
  have h1 := (round_ft g h0 L _ (Nat.le_refl _)).iv
  simp only
  unfold roundA
  generalize (List.range ({ w with now := w.now + 1 } : Wld).chars.length).foldl (fightIf t L) (({ w with now := w.now + 1 }, []), 0) = r at *
  have h2 := iv_rest h1
  generalize restA r.1.1 = w3 at *
  have hml : t.mobs.length ≤ 60 := by have := g.rm.len; rwa [List.length_map] at this
  have h3 : Iv t s (K + 85) (if w3.now.tmod 10 = 0 then resetA t w3 else w3) := by
    split
    · exact (resets_iv t.mobs h2 fun m hm => (g.mo m hm).hp).mono (Nat.le_refl s) (by omega)
    · exact h2.mono (Nat.le_refl s) (by omega)
  generalize (if w3.now.tmod 10 = 0 then resetA t w3 else w3) = w4 at *
  unfold endA
  have h4 := h3.w0.nl
  exact (endGo_iv w4.lots [] [] h3.w0 (by rw [List.nil_append]; exact h3.w0.lk) (by rw [List.nil_append]; exact h4) (by rw [List.nil_append]; exact h3.lt)).mono (Nat.le_refl s) (by omega)
end
end Go.Proofs.YtflmbhkjhfmeoaaGreat
namespace Go.Proofs.YtflmbhkjhfmeoaaGreat
theorem wdl_len {s : Tx} (h : wordB s = true) : s.length ≤ 24 := by
  unfold wordB at h
  simp only [Bool.and_eq_true, decide_eq_true_eq] at h
  exact h.2
theorem bt_of {t : Tab} (g : Good t) : Bt t where
  nr := by have := g.rr.len; rw [List.length_map] at this; omega
  np := by have := g.rp.len; rw [List.length_map] at this; omega
  nm := by have := g.rm.len; rw [List.length_map] at this; omega
  nc := by have := g.rc.len; rw [List.length_map] at this; omega
  nq := by have := g.rq.len; rw [List.length_map] at this; omega
  ns := by have := g.rs.len; rw [List.length_map] at this; omega
  rn x hx := by have := wdl_len (g.ro x hx).nm; omega
  pn x hx := by have := wdl_len (g.po x hx).nm; omega
  mn x hx := by have := wdl_len (g.mo x hx).nm; omega
theorem okt_of {t : Tab} (g : Good t) : Okt t where
  it s hs id hid := (g.so s hs).ip id hid
  sl s hs := by have := (g.so s hs).it.len; omega
  pp p hp := by have := (g.po p hp).pr; omega
theorem qok_of {t : Tab} (g : Good t) : Qok t where
  ok q hq := by
    have h1 := g.rq.id q.id (List.mem_map_of_mem hq)
    have h2 := (g.qo q hq).ct
    have h3 := (g.qo q hq).go
    omega
theorem find_some {α : Type} {p : α → Bool} {l : List α} {x : α} (hx : x ∈ l) (hp : p x = true) : ∃ k, l.findIdx? p = some k := by
  cases h : l.findIdx? p with
  | some k => exact ⟨k, rfl⟩
  | none =>
    rw [List.findIdx?_eq_none_iff] at h
    have := h x hx
    rw [hp] at this
    cases this
section
variable {t : Tab} {s K : Nat} {w : Wld}
theorem iw_bw (h : Iw t s K w) (hs : s ≤ 1000) (hK : K ≤ 90000) : Bw w where
  nc := by have := h.nc; omega
  nt := by have := h.nt; omega
  nm := by have := h.nm; omega
  nh := by have := h.nh; omega
  nl := by have := h.nl; omega
  ni := by have := h.ni; omega
  gs x hx := by have := (h.hc x hx).2; omega
  cn x hx := (h.ch x hx).nm
theorem iv_bw (h : Iv t s K w) (hs : s ≤ 1000) (hK : K ≤ 90000) : Bw w := iw_bw h.w0 hs hK
theorem lok_of (h : Iv t s K w) (hK : K ≤ 90000) : Lok w where
  th l hl := by
    obtain ⟨x, hx, h1, _⟩ := h.lt.th l hl
    exact find_some hx (by simpa using h1)
  nb l hl := (h.w0.lk l hl).nb
  id l hl := by have := (h.w0.lk l hl).id; omega
  mi l hl := by have := (h.w0.lk l hl).mi; omega
  bi l hl := by have := (h.w0.lk l hl).bi; omega
theorem fgt_of (g : Good t) (h : Iv t s K w) (hK : K ≤ 90000) {x : Chr} (hx : x ∈ w.chars) : Fgt t w x where
  xp := (h.w0.ch x hx).xp
  go := (h.w0.ch x hx).go
  hp := by have := (h.w0.ch x hx).hp; omega
  mi := by have := h.w0.mi; omega
  mo y hy := by have := h.w0.mo y hy; omega
  pr p hp := (g.po p hp).pw
  mp p hp := by
    have h1 := g.mo p hp
    have h2 := h1.xp
    have h3 := h1.go
    exact ⟨by omega, by omega, h1.pw, by have := wdl_len h1.nm; omega⟩
theorem rnd_of (g : Good t) (L : List Int) (hs : s ≤ 1000) (hK : K ≤ 80000) : Rnd t L (fun i w => i ≤ 24 ∧ Iv t s (K + i) w) where
  bw i w h := iv_bw h.2 hs (by have := h.1; omega)
  nc i w h := h.2.w0.nc
  fg i w x h hx := fgt_of g h.2 (by have := h.1; omega) hx
  up i w hi h := ⟨by omega, h.2.mono (Nat.le_refl s) (by omega)⟩
  go i w c k x hi h hx _ _ := by
    have f := fight_ft g h.2 hx L k
    exact ⟨⟨by omega, f.iv⟩, f.nc, by have := f.sl; omega⟩
theorem ends_of (hs : s ≤ 1000) (hK : K ≤ 80000) : Ends (fun i w => i ≤ 10 ∧ Iw t s (K + i) w) where
  bw i w h := iw_bw h.2 hs (by have := h.1; omega)
  nl i w h := h.2.nl
  lo i w l h hl := by
    have k := h.2.lk l hl
    have h1 := k.en
    have h2 := h.1
    obtain ⟨x, hx, e⟩ := List.mem_map.1 k.se
    exact ⟨k.bi, find_some hx (by simpa using e), by omega, by omega⟩
  rg i w h := by
    have h1 := h.2.mi
    have h2 := h.2.nw
    have h3 := h.1
    exact ⟨fun x hx => ⟨(h.2.ch x hx).go, (h.2.ch x hx).ba⟩, by omega, by omega, by omega⟩
  up i w hi h := ⟨by omega, h.2.mono (Nat.le_refl s) (by omega)⟩
  go i w l x hi h hl hx := by
    have st := settle_st h.2 (h.2.lk l hl).bi hx
    exact ⟨⟨by omega, st.iw⟩, st.lo, st.sl⟩
theorem tik_of (g : Good t) (h : Iv t s K w) (hs : s ≤ 1000) (hK : K ≤ 50000) (L : List Int) : Tik t L w (fun i w => i ≤ 24 ∧ Iv t s (K + 1 + i) w) (fun i w => i ≤ 10 ∧ Iw t s (K + 85 + i) w) := by
  have h0 := iv_now h
  have hnc := h0.w0.nc
  have f := round_ft g h0 L _ (Nat.le_refl _)
  have h1 : Iv t s (K + 25) (roundA t L (nowW w)).1.1 := f.iv.mono (Nat.le_refl s) (by omega)
  have h1s : (roundA t L (nowW w)).1.2.length ≤ 2400 := Nat.le_trans f.sl (by omega)
  have h2 : Iv t s (K + 25) (restW t L w) := iv_rest h1
  have hml : t.mobs.length ≤ 60 := by have := g.rm.len; rwa [List.length_map] at this
  have h3 : Iv t s (K + 85) (backW t L w) := by
    unfold backW
    split
    · exact (resets_iv t.mobs h2 fun m hm => (g.mo m hm).hp).mono (Nat.le_refl s) (by omega)
    · exact h2.mono (Nat.le_refl s) (by omega)
  exact {
    hI := rnd_of g L hs (by omega)
    hJ := ends_of hs (by omega)
    now := by have := h.w0.nw; omega
    w0 := ⟨by omega, h0⟩
    b1 := iv_bw h1 hs (by omega)
    r1 := fun x hx => by have k := h1.w0.ch x hx; have h1 := k.xp; have h2 := k.hp; omega
    s1 := by omega
    b2 := iv_bw h2 hs (by omega)
    m2 := by have := h2.w0.nm; omega
    n2 := by have := h2.w0.nx; omega
    w4 := ⟨by omega, h3.w0⟩
    tm := by omega }
end
end Go.Proofs.YtflmbhkjhfmeoaaGreat
namespace Go.Proofs.YtflmbhkjhfmeoaaGreat
open Go.SL
set_option maxHeartbeats 4000000
theorem wgo_mem : ∀ (r cur x : List UInt8), x ∈ wgo r cur → x.length ≤ cur.length + r.length
  | [], cur, x, h => by
    unfold wgo at h; split at h
    · cases h
    · simp only [List.mem_singleton] at h; subst h; simp
  | c :: r, cur, x, h => by
    unfold wgo at h; split at h
    · split at h
      · have := wgo_mem r [] x h; simp only [List.length_nil, List.length_cons] at this ⊢; omega
      · rcases List.mem_cons.1 h with rfl | h
        · simp only [List.length_cons]; omega
        · have := wgo_mem r [] x h; simp only [List.length_nil, List.length_cons] at this ⊢; omega
    · have := wgo_mem r (cur ++ [c]) x h; simp only [List.length_append, List.length_cons, List.length_nil] at this ⊢; omega
theorem words_len (s : List UInt8) : (wordsM s).length ≤ s.length + 1 := wgo_len s []
theorem words_mem {s x : List UInt8} (h : x ∈ wordsM s) : x.length ≤ s.length := by have := wgo_mem s [] x h; simpa using this
end Go.Proofs.YtflmbhkjhfmeoaaGreat
namespace Go.Proofs.YtflmbhkjhfmeoaaGreat
open Go.SL
set_option maxHeartbeats 8000000
set_option maxRecDepth 20000
theorem behT_len (s : Tx) (n : Nat) : (behT s n).length ≤ s.length := by
  unfold behT; rw [List.length_drop]; omega
section
variable (t d e : Nat) (m : Lay) (w : Wld) (mt : Tay) (tab : Tab) (S : List Sy) (u : Int)
theorem talk_spec (bw : Bw w) (lm : Laid m w) (name cmd a line : Tx) (c : Nat) (x : Chr) (hx : w.chars[c]? = some x) (hn : name.length ≤ 1000) (ha : a.length ≤ 1000) (hll : line.length ≤ 1000) (hS : S.length ≤ 100000) :
    Trip Tryz.prog 159 [.pointer (some ⟨t, 0, none⟩), str name, str cmd, str a, str line, .int .i64 (c : Int)] [ts t d e S u, wl d m w]
      (fun v Ps => v = .tuple #[] ∧ Ps = [ts t d e (S ++ (talkA w name cmd a line c).2) u, wl d m (talkA w name cmd a line c).1]) := by
  refine Trip.of (m := 87) Tryz.func159 rfl rfl rfl ?_
  intro o Rs
  simp only [List.cons_append, List.nil_append, enumFrom]
  haveI : Plan 4 [29, 32, 36] [0, 1, 2, 3, 4, 5, 6, 7, 8, 9, 10, 11, 12, 13, 16, 14, 15, 17, 18] := ⟨⟩
  have hcl := (List.getElem?_eq_some_iff.1 hx).1
  obtain ⟨⟨A0, c0⟩, hz, _⟩ := zip_get hx lm.1
  have zc : w.chars.length = (w.chars.zip m.dn).length := by rw [List.length_zip, lm.1, Nat.min_self]
  have hnc := bw.nc
  have hcp := cap_len name
  by_cases h1 : cmd = [115, 97, 121]
  · subst h1
    have e2 : talkA w name [115, 97, 121] a line c = (w, [(name, [89, 111, 117, 32, 115, 97, 121, 58, 32] ++ behT line 1)] ++ othersL w x.room name (capT name ++ [32, 115, 97, 121, 115, 58, 32] ++ behT line 1)) := by
      unfold talkA
      rw [if_pos rfl, getD_of hx]
    rw [e2]
    have hb := behT_len line 1
    have F1 := Behind_spec line (by omega) 1 (by omega)
    generalize behT line 1 = bt at *
    have F2 := say_spec t d e S u name ([89, 111, 117, 32, 115, 97, 121, 58, 32] ++ bt) (by omega)
    have F3 := Cap_spec name (by omega)
    have F4 := others_spec t d e m w (S ++ [(name, [89, 111, 117, 32, 115, 97, 121, 58, 32] ++ bt)]) u x.room name (capT name ++ [32, 115, 97, 121, 115, 58, 32] ++ bt) (by rw [List.length_append]; simp only [List.length_cons, List.length_nil]; omega) hnc lm
    refine go ?_
    refine ⟨?_, by simp⟩ <;> intros
    exact ret0 (Ps := [ts t d e (S ++ [(name, [89, 111, 117, 32, 115, 97, 121, 58, 32] ++ bt)] ++ othersL w x.room name (capT name ++ [32, 115, 97, 121, 115, 58, 32] ++ bt)) u, wl d m w]) ⟨rfl, by rw [List.append_assoc S]; rfl⟩
  have n1 : ¬ (cmd == [115, 97, 121]) = true := by simpa using h1
  by_cases h2 : cmd = [116, 101, 108, 108]
  · subst h2
    have F1 := RefLower_spec a (by omega)
    have hlo := lower_len a
    have F2 := on_spec t d e m w S u bw lm (lowerM a)
    have F5 := say_spec t d e S u name [84, 104, 101, 121, 32, 97, 114, 101, 32, 110, 111, 116, 32, 104, 101, 114, 101, 46] (by omega)
    unfold talkA
    rw [if_neg (by decide), if_pos rfl]
    generalize lowerM a = to at *
    cases hto : onI w to with
    | none =>
      rw [hto] at F2
      simp only [iv, Option.isNone_none, true_or, if_true] at F2 ⊢
      refine go ?_
      refine ⟨?_, by simp⟩ <;> intros
      exact ret0 ⟨rfl, rfl⟩
    | some k =>
      rw [hto] at F2
      simp only [iv, Option.isNone_some, Bool.false_eq_true, false_or] at F2 ⊢
      by_cases h3 : to = name
      · rw [if_pos h3]
        refine go ?_
        (repeat' (first | exact trivial | apply And.intro | intro _))
        all_goals first
          | (exfalso; first | omega | exact absurd h3 (by assumption))
          | exact ret0 ⟨rfl, rfl⟩
      · rw [if_neg h3]
        have hb := behT_len line 2
        have hcp2 := cap_len to
        have F8 := Behind_spec line (by omega) 2 (by omega)
        generalize behT line 2 = bt at *
        have F3 := Cap_spec name (by omega)
        have F4 := Cap_spec to (by omega)
        have F6 := say_spec t d e S u name ([89, 111, 117, 32, 116, 101, 108, 108, 32] ++ capT to ++ [58, 32] ++ bt) (by omega)
        have F7 := say_spec t d e (S ++ [(name, [89, 111, 117, 32, 116, 101, 108, 108, 32] ++ capT to ++ [58, 32] ++ bt)]) u to (capT name ++ [32, 116, 101, 108, 108, 115, 32, 121, 111, 117, 58, 32] ++ bt) (by rw [List.length_append]; simp only [List.length_cons, List.length_nil]; omega)
        refine go ?_
        (repeat' (first | exact trivial | apply And.intro | intro _))
        all_goals first
          | (exfalso; first | omega | exact h3 (by assumption))
          | exact ret0 (Ps := [ts t d e (S ++ [(name, [89, 111, 117, 32, 116, 101, 108, 108, 32] ++ capT to ++ [58, 32] ++ bt)] ++ [(to, capT name ++ [32, 116, 101, 108, 108, 115, 32, 121, 111, 117, 58, 32] ++ bt)]) u, wl d m w]) ⟨rfl, by rw [List.append_assoc S]; rfl⟩
  have n2 : ¬ (cmd == [116, 101, 108, 108]) = true := by simpa using h2
  by_cases h3 : cmd = [113, 117, 105, 116]
  · subst h3
    have e2 : talkA w name [113, 117, 105, 116] a line c = ((offA w c [32, 108, 101, 97, 118, 101, 115, 32, 116, 104, 101, 32, 119, 111, 114, 108, 100, 46]).1, [(name, [71, 111, 111, 100, 98, 121, 101, 46])] ++ (offA w c [32, 108, 101, 97, 118, 101, 115, 32, 116, 104, 101, 32, 119, 111, 114, 108, 100, 46]).2) := by
      unfold talkA
      rw [if_neg (by decide), if_neg (by decide), if_pos rfl]
    rw [e2]
    have F1 := say_spec t d e S u name [71, 111, 111, 100, 98, 121, 101, 46] (by omega)
    have F2 := off_spec t d e m w (S ++ [(name, [71, 111, 111, 100, 98, 121, 101, 46])]) u bw lm c x hx [32, 108, 101, 97, 118, 101, 115, 32, 116, 104, 101, 32, 119, 111, 114, 108, 100, 46] (by decide) (by rw [List.length_append]; simp only [List.length_cons, List.length_nil]; omega)
    refine go ?_
    refine ⟨?_, by simp⟩ <;> intros
    exact ret0 (Ps := [ts t d e (S ++ [(name, [71, 111, 111, 100, 98, 121, 101, 46])] ++ (offA w c [32, 108, 101, 97, 118, 101, 115, 32, 116, 104, 101, 32, 119, 111, 114, 108, 100, 46]).2) u, wl d m (offA w c [32, 108, 101, 97, 118, 101, 115, 32, 116, 104, 101, 32, 119, 111, 114, 108, 100, 46]).1]) ⟨rfl, by rw [List.append_assoc S]; rfl⟩
  have n3 : ¬ (cmd == [113, 117, 105, 116]) = true := by simpa using h3
  have e2 : talkA w name cmd a line c = (w, []) := by
    unfold talkA
    rw [if_neg h1, if_neg h2, if_neg h3]
  rw [e2]
  refine go ?_
  (repeat' (first | exact trivial | apply And.intro | intro _))
  all_goals first
    | (exfalso; first | exact n1 (by assumption) | exact n2 (by assumption) | exact n3 (by assumption) | exact h1 (by assumption) | exact h2 (by assumption) | exact h3 (by assumption))
    | exact ret0 (Ps := [ts t d e (S ++ []) u, wl d m w]) ⟨rfl, rfl⟩ (hh := by rw [List.append_nil]; (exact ent_))
end
end Go.Proofs.YtflmbhkjhfmeoaaGreat
namespace Go.Proofs.YtflmbhkjhfmeoaaGreat
open Go.SL
set_option maxHeartbeats 8000000
set_option maxRecDepth 20000
theorem ri_of {l : List Int} {most : Nat} (h1 : l.length ≤ most) (h2 : (l.all fun x => decide (1 ≤ x ∧ x ≤ 1000)) = true) (h3 : ((l.zip l.tail).all fun p => decide (p.1 < p.2)) = true) : Ri l most := by
  refine ⟨h1, fun x hx => by simpa using List.all_eq_true.1 h2 x hx, fun k x y hx hy => ?_⟩
  have : (l.zip l.tail)[k]? = some (x, y) := by rw [List.getElem?_zip_eq_some]; exact ⟨hx, by rw [List.getElem?_tail]; exact hy⟩
  simpa using List.all_eq_true.1 h3 _ (List.mem_of_getElem? this)
theorem base_good : Good baseT where
  ne := by decide
  rr := ri_of (by decide) (by decide) (by decide)
  rp := ri_of (by decide) (by decide) (by decide)
  rm := ri_of (by decide) (by decide) (by decide)
  rc := ri_of (by decide) (by decide) (by decide)
  rq := ri_of (by decide) (by decide) (by decide)
  rs := ri_of (by decide) (by decide) (by decide)
  ro := by
    intro r hr
    simp only [baseT, List.mem_cons, List.not_mem_nil, or_false] at hr
    rcases hr with rfl | rfl | rfl | rfl | rfl | rfl | rfl
    all_goals refine ⟨by kernel_rfl, by decide, by decide, fun x hx => ?_⟩
    all_goals simp only [Rm.exits, List.mem_cons, List.not_mem_nil, or_false] at hx
    all_goals rcases hx with rfl | rfl | rfl | rfl | rfl | rfl
    all_goals exact ⟨by decide, by first | exact .inl rfl | exact .inr ⟨_, rfl⟩⟩
  po := by
    intro r hr
    simp only [baseT, List.mem_cons, List.not_mem_nil, or_false] at hr
    rcases hr with rfl | rfl | rfl | rfl | rfl
    all_goals exact ⟨by kernel_rfl, by decide, by decide, by decide⟩
  mo := by
    intro r hr
    simp only [baseT, List.mem_cons, List.not_mem_nil, or_false] at hr
    rcases hr with rfl | rfl
    all_goals exact ⟨by kernel_rfl, by decide, ⟨_, rfl⟩, by decide, by decide, by decide, by decide⟩
  co := by
    intro r hr
    simp only [baseT, List.mem_cons, List.not_mem_nil, or_false] at hr
    subst hr
    refine ⟨⟨_, rfl⟩, by decide, fun k x y hx hy => ?_, fun x hx => ?_⟩
    · have h1 := List.mem_of_getElem? hx
      have h2 := List.mem_of_getElem? hy
      simp at h1 h2; omega
    · simp only [List.mem_cons, List.not_mem_nil, or_false] at hx
      rcases hx with rfl | rfl <;> exact ⟨by decide, ⟨_, rfl⟩⟩
  qo := by
    intro r hr
    simp only [baseT, List.mem_cons, List.not_mem_nil, or_false] at hr
    rcases hr with rfl | rfl
    all_goals exact ⟨⟨by decide, ⟨_, rfl⟩⟩, by decide, by decide, ⟨by decide, by first | exact .inl rfl | exact .inr ⟨_, rfl⟩⟩⟩
  so := by
    intro r hr
    simp only [baseT, List.mem_cons, List.not_mem_nil, or_false] at hr
    subst hr
    refine ⟨⟨_, _, rfl, rfl, rfl⟩, by decide, ri_of (by decide) (by decide) (by decide), fun x hx => ?_⟩
    simp only [List.mem_cons, List.not_mem_nil, or_false] at hx
    rcases hx with rfl | rfl | rfl <;> exact ⟨_, rfl⟩
theorem base_till : ∀ s ∈ baseT.shops, 0 ≤ s.till ∧ s.till ≤ 1099511627776 := by decide
theorem NewBase_spec (e : Nat) (mt : Tay) (lt : TLaid mt baseT) : Trip Tryz.prog 80 [.pointer (some ⟨e, 0, none⟩)] [tb e mt baseT] (fun v Ps => ∃ d m, v = .pointer (some ⟨d, 0, none⟩) ∧ Ps = [tb e mt baseT, wl d m (newW baseT)]) :=
  NewP_spec e mt baseT base_good lt base_till (tb e mt baseT)
theorem begun16_spec : Trip Tryz.prog 25 [] [] (fun v Ps => v = .bool true ∧ Ps = []) := by
  refine Trip.of (m := 51) Tryz.func25 rfl rfl rfl ?_
  intro o Rs
  simp only [List.cons_append, List.nil_append, enumFrom]
  have F1 := Base_spec
  refine go ?_
  refine ⟨?_, by simp⟩ <;> intros
  rename_i e mt
  refine wtb fun lt => ?_
  have F2 := NewBase_spec e mt lt
  have hm2 : (newW baseT).mobs.length = 2 := rfl
  have hn2 : (newW baseT).next = 3 := rfl
  have hg2 : (newW baseT).minted = 50 := by kernel_rfl
  refine go ?_
  refine ⟨?_, by simp⟩ <;> intros
  rename_i d m e2 mt2
  refine wtb (d := e2) (m := mt2) (t := baseT) fun lt2 => ?_
  refine wwl (d := d) (m := m) (t := newW baseT) fun lm => ?_
  have F3 := May_new d e2 m mt2 baseT base_good lt2 (newW baseT) rfl lm (wl d m (newW baseT)) (tb e2 mt2 baseT)
  have F4 := LevelP_spec 250 (by decide) (by decide)
  have F5 := MaxHpP_spec 250 (by decide) (by decide)
  have F6 := CharP_spec d m (newW baseT) [120] (by decide) lm (wl d m (newW baseT))
  rw [show levelN 250 = 3 from rfl] at F4
  rw [show maxHpN 250 = 30 from rfl] at F5
  rw [show iv (charI (newW baseT) [120]) = -1 from rfl] at F6
  refine go ?_
  refine ⟨?_, by simp⟩ <;> intros
  rename_i e3 mt3
  have F7 := StartP_spec e3 mt3 baseT (by decide) (tb e3 mt3 baseT)
  rw [show startR baseT = 1 from rfl] at F7
  refine go ?_
  simp
end Go.Proofs.YtflmbhkjhfmeoaaGreat
namespace Go.Proofs.YtflmbhkjhfmeoaaGreat
section
variable {t : Tab} {s K : Nat} {w : Wld}
theorem iv_talk (h : Iv t s K w) (name cmd a line : Tx) {c : Nat} {x : Chr} (hx : w.chars[c]? = some x) : Iv t s K (talkA w name cmd a line c).1 := by
  unfold talkA
  split
  · exact h
  · split
    · split
      · exact h
      · exact h
    · split
      · exact iv_off h hx [32, 108, 101, 97, 118, 101, 115, 32, 116, 104, 101, 32, 119, 111, 114, 108, 100, 46]
      · exact h
theorem if_1 {s K : Nat} {c : Prop} {i : Decidable c} {a b : Wld × List Sy} (ha : Iv t s K a.1) (hb : Iv t s K b.1) : Iv t s K (@ite _ c i a b).1 := by
  split
  · exact ha
  · exact hb
theorem if_2 {s K : Nat} {c : Prop} {i : Decidable c} {a b : (Wld × List Sy) × Nat} (ha : Iv t s K a.1.1) (hb : Iv t s K b.1.1) : Iv t s K (@ite _ c i a b).1.1 := by
  split
  · exact ha
  · exact hb
theorem iv_body (h : Iv t s K w) (L : List Int) (name cmd a b : Tx) : Iv t s K (bodyA t L w name cmd a b).1.1 := by
  unfold bodyA
  refine if_2 h (if_2 (iv_get h _ _ _) (if_2 (iv_drop h _ _ _) (if_2 h (if_2 h (if_2 (iv_kill h _ _ _) (if_2 (iv_flee h _ _) (if_2 (iv_wear h _ _ _) (if_2 (iv_remove h _ _ _) (if_2 h (if_2 (iv_give h _ _ _ _ _) h))))))))))
theorem iv_houseDo (g : Good t) (h : Iv t s K w) (name a b : Tx) (words : Nat) : Iv t (s + 1) (K + 1) (houseDoA t w name a b words).1 := by
  have hm := h.mono (Nat.le_succ s) (Nat.le_succ K)
  unfold houseDoA
  exact if_1 (iv_buyHouse g h _) (if_1 hm (if_1 ((iv_guest h _ _ _).mono (Nat.le_refl _) (Nat.le_succ K)) (if_1 ((iv_chest h _ _ _ _).mono (Nat.le_succ s) (Nat.le_succ K)) (if_1 ((iv_chest h _ _ _ _).mono (Nat.le_succ s) (Nat.le_succ K)) hm))))
theorem iv_money (g : Good t) (h : Iv t s K w) (hnum : ∀ q, (numM q).1 ≤ 1099511627776) (name cmd a b : Tx) (words c : Nat) : Iv t (s + 1) (K + 2) (moneyA t w name cmd a b words c).1 := by
  have hm := h.mono (Nat.le_succ s) (show K ≤ K + 2 by omega)
  have h1 : K + 1 ≤ K + 2 := by omega
  have h0 : K ≤ K + 2 := by omega
  unfold moneyA
  exact if_1 ((iv_buy g h _ _).mono (Nat.le_succ s) h1) (if_1 ((iv_sell h _ _ _).mono (Nat.le_succ s) h0) (if_1 hm (if_1 ((iv_bank h _ _ _ _).mono (Nat.le_succ s) h0) (if_1 ((iv_bank h _ _ _ _).mono (Nat.le_succ s) h0) (if_1 hm (if_1 ((iv_craft g h _ _).mono (Nat.le_succ s) h1) (if_1 (if_1 (iv_turn g h _ _ _) hm) (if_1 ((iv_houseDo g h _ _ _ _).mono (Nat.le_refl _) h1) (if_1 ((iv_offer h _ hnum _ _ _).mono (Nat.le_succ s) h1) (if_1 ((iv_bid h _ hnum _ _ _).mono (Nat.le_succ s) h0) (if_1 hm hm)))))))))))
theorem iv_do (g : Good t) (h : Iv t s K w) (hnum : ∀ q, (numM q).1 ≤ 1099511627776) (L : List Int) (name line : Tx) : Iv t (s + 1) (K + 2) (doA t L w name line).1.1 := by
  have hm := h.mono (Nat.le_succ s) (show K ≤ K + 2 by omega)
  unfold doA
  split
  · exact hm
  · rename_i c hc
    obtain ⟨x, hx, _⟩ := on_at hc
    split
    · exact hm
    · split
      · exact hm
      · split
        · exact hm
        · unfold cmdA
          split
          · exact (iv_go h _ _).mono (Nat.le_succ s) (by omega)
          · split
            · exact (iv_body h _ _ _ _ _).mono (Nat.le_succ s) (by omega)
            · split
              · exact iv_money g h hnum _ _ _ _ _ _
              · exact (iv_talk h _ _ _ _ hx).mono (Nat.le_succ s) (by omega)
theorem iv_new (h : Iv t s K w) (name hash : Tx) (hn : name.length ≤ 1000) : Iv t s (K + 1) (newA t w name hash) := by
  unfold newA
  split
  · exact h.mono (Nat.le_refl s) (Nat.le_succ K)
  · rename_i hc
    simp only [not_or, Nat.not_le] at hc
    have h2 := h.w0.mint 100 (by omega) (by omega)
    exact ⟨{ h2 with
      ch := fun x hx => by
        rcases (insB_mem _ _ _ _).1 hx with rfl | hx
        · exact ⟨hn, by simp only; omega, by simp only; omega, by simp only; omega, by simp only; omega, Nat.zero_le _⟩
        · exact h.w0.ch x hx
      nc := by simp only [insB_len]; omega
      lk := fun l hl => by
        have k := h2.lk l hl
        refine ⟨k.bi, k.nb, ?_, k.id, k.mi, k.en⟩
        obtain ⟨y, hy, e⟩ := List.mem_map.1 k.se
        exact List.mem_map.2 ⟨y, (insB_mem _ _ _ _).2 (Or.inr hy), e⟩ }, h.lt⟩
theorem iv_wake (h : Iv t s K w) (name : Tx) : Iv t s K (wakeA t w name).1 := by
  unfold wakeA
  split
  · exact h
  · rename_i c hc
    obtain ⟨x, hx, _⟩ := find_get hc
    split
    · exact h
    · have k := h.ck hx
      exact h.setC hx (fun x => { x with on := true }) rfl ⟨k.nm, k.go, k.ba, k.xp, k.hp, k.dn⟩
theorem iv_boot (h : Iv t s K w) : Iv t s K (bootA w) := by
  refine ⟨h.w0.chars (by rw [List.map_map]; rfl) fun x hx => ?_, h.lt⟩
  obtain ⟨y, hy, rfl⟩ := List.mem_map.1 hx
  have k := h.w0.ch y hy
  exact ⟨k.nm, k.go, k.ba, k.xp, k.hp, k.dn⟩
theorem iv_step (g : Good t) (h : Iv t s K w) (hnum : ∀ q, (numM q).1 ≤ 1099511627776) (e : Evt) (hn : e.name.length ≤ 1000) : Iv t (s + 1) (K + 100) (stepA t w e).1 := by
  have hm := h.mono (Nat.le_succ s) (show K ≤ K + 100 by omega)
  unfold stepA
  split
  · exact (iv_new h _ _ hn).mono (Nat.le_succ s) (by omega)
  · split
    · exact (iv_wake h _).mono (Nat.le_succ s) (by omega)
    · split
      · split
        · exact hm
        · rename_i c hc
          obtain ⟨x, hx, _⟩ := find_get hc
          split
          · exact (iv_off h hx [32, 102, 97, 100, 101, 115, 46]).mono (Nat.le_succ s) (by omega)
          · exact hm
      · split
        · exact (iv_do g h hnum _ _ _).mono (Nat.le_refl _) (by omega)
        · split
          · exact (iv_tick g h _).mono (Nat.le_succ s) (Nat.le_refl _)
          · split
            · exact (iv_boot h).mono (Nat.le_succ s) (by omega)
            · exact hm
theorem iv_newW (g : Good t) (hl : ∀ s ∈ t.shops, 0 ≤ s.till ∧ s.till ≤ 1099511627776) : Iv t 0 100 (newW t) := by
  have h1 : t.mobs.length ≤ 60 := by have := g.rm.len; rwa [List.length_map] at this
  have h2 : t.shops.length ≤ 60 := by have := g.rs.len; rwa [List.length_map] at this
  have h3 := newG_le hl t.shops.length (Nat.le_refl _)
  rw [List.take_length] at h3
  refine ⟨⟨(fun x hx => by cases hx), Nat.zero_le _, Nat.zero_le _, ?_, Nat.zero_le _, Nat.zero_le _, ?_, (fun x hx => by cases hx), List.Pairwise.nil, (fun x hx => by cases hx), ?_, (fun x hx => by cases hx), (fun x hx => by cases hx), ?_, ?_, ?_, ?_⟩, ⟨(fun x hx => by cases hx), List.Pairwise.nil⟩⟩
  · show (newM t.mobs).length ≤ 100
    rw [newM_len]; omega
  · show (newI t.shops).length ≤ 60
    rw [newI_len]; omega
  · intro y hy
    obtain ⟨p, hp, rfl⟩ := List.mem_map.1 hy
    have := List.mem_zipIdx_iff_getElem?.1 hp
    exact (g.mo p.1 (List.mem_of_getElem? this)).hp
  · intro y hy
    obtain ⟨p, hp, rfl⟩ := List.mem_map.1 hy
    exact hl p hp
  · simp only [newW]; omega
  · simp only [newW]; omega
  · simp only [newW]; omega
end
end Go.Proofs.YtflmbhkjhfmeoaaGreat
namespace Go.Proofs.YtflmbhkjhfmeoaaGreat
open Go.SL Go.RowKit
set_option maxHeartbeats 8000000
set_option maxRecDepth 20000
theorem results_tm3 {fn : Func} {t u z : Tmp} (h : fn.results = #[.tmp t, .tmp u, .tmp z]) (tmps : Array Value) (P : Program) (w : World) :
    (results fn tmps).run P w = .ok (.tuple #[tmps.getD t undef, tmps.getD u undef, tmps.getD z undef]) w := by
  simp [results, h]
theorem retn3 {n : Nat} {o : Outer} {P : Program} {xs : Env} {hs : List HProp} {fn : Func} {t u z : Tmp} {Rs Ps : List HProp} {q : Value → List HProp → Prop} {e : Exit} {v v' v'' : Value} (hq : q (.tuple #[v, v', v'']) Ps) (hf : fn.results = #[.tmp t, .tmp u, .tmp z] := by exact rfl) (he : e = .ret ∨ e = .normal := by first | exact .inl rfl | exact .inr rfl)
    (hv : get xs t = some v := by exact rfl) (hv' : get xs u = some v' := by exact rfl) (hv'' : get xs z = some v'' := by exact rfl) (hh : Ent hs Ps Rs := by (exact ent_)) : E n o (bodyQ P fn o Rs q) e xs hs :=
  E.body he _ (fun a w ha _ => by rw [results_tm3 hf, Array.getD_eq_getD_getElem?, Array.getD_eq_getD_getElem?, Array.getD_eq_getD_getElem?, ha.get t v hv, ha.get u v' hv', ha.get z v'' hv'']; rfl) hq hh
theorem byte_find (c : UInt8) : ∀ s : List UInt8, Lib.indexByte s c = iv (s.findIdx? (· == c))
  | [] => rfl
  | a :: r => by
    rw [Lib.indexByte, List.findIdx?_cons, byte_find c r]
    by_cases h : (a == c) = true
    · rw [if_pos h, if_pos h]; rfl
    · rw [if_neg h, if_neg h]
      cases hr : r.findIdx? (· == c) with
      | none => rfl
      | some i =>
        rw [if_neg (by simp only [iv, beq_iff_eq]; omega)]
        simp [iv]
theorem SIndex_spec (s : List UInt8) (c : UInt8) : Trip Tryz.prog 258 [str s, str [c]] [] (fun u Ps => u = .int .i64 (iv (s.findIdx? (· == c))) ∧ Ps = []) := by
  constructor; intro o w Rs hw
  refine (Tryz.stringslite_Index_one ⟨s.toArray⟩ c w).mono ?_
  rintro e w' ⟨rfl, rfl⟩
  exact ⟨_, _, rfl, ⟨by rw [← byte_find], rfl⟩, hw⟩
def cutB (s : Tx) : Tx := match s.findIdx? (· == 46) with
  | none => s
  | some i => s.take i
def cutA (s : Tx) : Tx := match s.findIdx? (· == 46) with
  | none => []
  | some i => s.drop (i + 1)
theorem SCut_spec (s : Tx) (hs : s.length ≤ 100000) : Trip Tryz.prog 210 [str s, str [46]] [] (fun u Ps => u = .tuple #[str (cutB s), str (cutA s), .bool (s.findIdx? (· == 46)).isSome] ∧ Ps = []) := by
  refine Trip.of (m := 23) Tryz.func210 rfl rfl rfl ?_
  intro o Rs
  simp only [List.cons_append, List.nil_append, enumFrom]
  have F1 := SIndex_spec s 46
  unfold cutB cutA
  cases h : s.findIdx? (· == 46) with
  | none =>
    rw [h] at F1
    simp only [iv] at F1
    simp only [Option.isSome_none]
    refine go ?_
    refine ⟨?_, by simp⟩ <;> intros
    exact retn3 ⟨rfl, rfl⟩
  | some i =>
    have hi := find_lt h
    rw [h] at F1
    simp only [iv] at F1
    simp only [Option.isSome_some]
    refine go ?_
    (repeat' (first | exact trivial | apply And.intro | intro _))
    all_goals exact retn3 ⟨rfl, rfl⟩
theorem Cut46_spec (s : Tx) (hs : s.length ≤ 100000) : Trip Tryz.prog 146 [str s, str [46]] [] (fun u Ps => u = .tuple #[str (cutB s), str (cutA s), .bool (s.findIdx? (· == 46)).isSome] ∧ Ps = []) := by
  refine Trip.of (m := 13) Tryz.func146 rfl rfl rfl ?_
  intro o Rs
  simp only [List.cons_append, List.nil_append, enumFrom]
  have F1 := SCut_spec s hs
  refine go ?_
  refine ⟨?_, by simp⟩ <;> intros
  exact retn3 ⟨rfl, rfl⟩
def nthP (s : Tx) : Tx × Int × Bool := match s.findIdx? (· == 46) with
  | none => (s, 1, true)
  | some i => (s.drop (i + 1), (numM (s.take i)).1, (numM (s.take i)).2 && decide (1 ≤ (numM (s.take i)).1) && decide ((numM (s.take i)).1 ≤ 99))
theorem nth_ord (s : Tx) : ordN numM s = if (nthP s).2.2 then ((nthP s).2.1, (nthP s).1) else (0, []) := by
  unfold ordN nthP
  cases h : s.findIdx? (· == 46) with
  | none => rfl
  | some i =>
    simp only
    by_cases h1 : (numM (s.take i)).2 = true
    · by_cases h2 : 1 ≤ (numM (s.take i)).1
      · by_cases h3 : (numM (s.take i)).1 ≤ 99
        · rw [if_neg (by simp [h1]; omega), h1, decide_eq_true h2, decide_eq_true h3]; rfl
        · rw [if_pos (by right; right; omega), decide_eq_false h3]; simp
      · rw [if_pos (by right; left; omega), decide_eq_false h2]; simp
    · rw [if_pos (by left; simpa using h1)]
      rw [show (numM (s.take i)).2 = false from by simpa using h1]; simp
theorem Nth_spec (s : Tx) (hs : s.length ≤ 100000) : Trip Tryz.prog 103 [str s] [] (fun u Ps => u = .tuple #[str (nthP s).1, .int .i64 (nthP s).2.1, .bool (nthP s).2.2] ∧ Ps = []) := by
  refine Trip.of (m := 35) Tryz.func103 rfl rfl rfl ?_
  intro o Rs
  simp only [List.cons_append, List.nil_append, enumFrom]
  have F1 := Cut46_spec s hs
  unfold nthP
  unfold cutB cutA at F1
  cases h : s.findIdx? (· == 46) with
  | none =>
    rw [h] at F1
    simp only [Option.isSome_none] at F1 ⊢
    refine go ?_
    refine ⟨?_, by simp⟩ <;> intros
    exact retn3 ⟨rfl, rfl⟩
  | some i =>
    rw [h] at F1
    simp only [Option.isSome_some] at F1 ⊢
    have F2 := Number_spec (s.take i)
    generalize numM (s.take i) = nm at *
    by_cases h1 : nm.2 = true
    · by_cases h2 : 1 ≤ nm.1
      · rw [h1] at F2 ⊢
        rw [decide_eq_true h2]
        refine go ?_
        (repeat' (first | exact trivial | apply And.intro | intro _))
        all_goals first
          | (exfalso; omega)
          | exact retn3 ⟨rfl, rfl⟩
      · rw [h1] at F2 ⊢
        rw [decide_eq_false h2]
        refine go ?_
        (repeat' (first | exact trivial | apply And.intro | intro _))
        all_goals first
          | (exfalso; omega)
          | exact retn3 ⟨rfl, rfl⟩
    · have h2 : nm.2 = false := by simpa using h1
      rw [h2] at F2 ⊢
      refine go ?_
      (repeat' (first | exact trivial | apply And.intro | intro _))
      all_goals first
        | (exfalso; omega)
        | exact retn3 ⟨rfl, rfl⟩
end Go.Proofs.YtflmbhkjhfmeoaaGreat
namespace Go.Proofs.YtflmbhkjhfmeoaaGreat
open Go.SL Go.RowKit
set_option maxHeartbeats 8000000
set_option maxRecDepth 20000
theorem cnt_stp {f : Nat → Bool} {l : List Nat} {k i : Nat} (h : l[k]? = some i) : (l.take (k + 1)).filter f = (l.take k).filter f ++ if f i then [i] else [] := by
  rw [List.take_add_one, h]; simp only [Option.toList_some, List.filter_append]; congr 1; by_cases hf : f i = true <;> simp [hf]
theorem nth_hi {f : Nat → Bool} {l : List Nat} {k i : Nat} {n : Int} (h : l[k]? = some i) (hf : f i = true) (hn : n - ((l.take k).filter f).length = 1) : nthOf f l n = some i := by
  rw [nthOf, if_neg (by omega)]
  have e : l = l.take (k + 1) ++ l.drop (k + 1) := (List.take_append_drop _ _).symm
  rw [e, List.filter_append, cnt_stp h, if_pos hf, List.append_assoc]
  rw [List.getElem?_append_right (by omega)]
  rw [show (n - 1).toNat - ((l.take k).filter f).length = 0 from by omega]; rfl
theorem nth_no {f : Nat → Bool} {l : List Nat} {n : Int} (hn : n < 1 ∨ ((l.filter f).length : Int) < n) : nthOf f l n = none := by
  rw [nthOf]
  split
  · rfl
  · rw [List.getElem?_eq_none_iff]; omega
theorem nth_range (s : Tx) (h : (nthP s).2.2 = true) : 1 ≤ (nthP s).2.1 ∧ (nthP s).2.1 ≤ 99 := by
  unfold nthP at h ⊢
  split
  · exact ⟨by simp, by simp⟩
  · rename_i i hi
    rw [hi] at h
    simp only [Bool.and_eq_true, decide_eq_true_eq] at h
    exact ⟨h.1.2, h.2⟩
theorem FindP_spec (d e : Nat) (m : Lay) (w : Wld) (mt : Tay) (tab : Tab) (hwl : w.things.length ≤ 100000) (hpl : tab.protos.length ≤ 100000) (R : HProp) [hr : RT R e mt tab] (l : List Nat) (hl : l.length ≤ 100000) (A : Option Addr) (c : Nat) (P : HProp) [hp : RW P d m w] (s : Tx) (hs : s.length ≤ 100000) (L : HProp) (hL : Reads L E64 A (ints l)) :
    Trip Tryz.prog 46 [.pointer (some ⟨d, 0, none⟩), .pointer (some ⟨e, 0, none⟩), .slice A (ints l).length c, str s] [P, R, L] (fun v Ps => v = .int .i64 (iv (findA numM tab w l s)) ∧ Ps = [P, R, L]) := by
  refine Trip.of (m := 71) Tryz.func46 rfl rfl rfl ?_
  intro o Rs
  simp only [List.cons_append, List.nil_append, enumFrom]
  have F1 := Nth_spec s hs
  have hil := ints_len l
  unfold findA
  rw [nth_ord]
  by_cases hok : (nthP s).2.2 = true
  case neg =>
    have hok2 : (nthP s).2.2 = false := by simpa using hok
    rw [hok2] at F1 ⊢
    rw [if_neg (by decide), nth_no (.inl (by decide))]
    refine go ?_
    (repeat' (first | exact trivial | apply And.intro | intro _))
    all_goals first | rfl | exact ret1 ⟨rfl, rfl⟩
  have hrg := nth_range s hok
  rw [hok] at F1 ⊢
  rw [if_pos rfl]
  simp only
  generalize (nthP s).1 = nm at *
  generalize (nthP s).2.1 = n at *
  refine go ?_
  refine ⟨?_, by simp⟩ <;> intros
  clear F1
  refine loop (σ := Nat) (fun k => k ≤ l.length ∧ (((l.take k).filter (isKind tab w nm)).length : Int) < n) (fun k => [(0, .pointer (some ⟨d, 0, none⟩)), (1, .pointer (some ⟨e, 0, none⟩)), (9, str nm), (10, .int .i64 (n - (((l.take k).filter (isKind tab w nm)).length : Int))), (28, .slice A (ints l).length c), (29, .int .i64 ((ints l).length : Int)), (30, .int .i64 (k : Int))])
    (fun k => P :: R :: L :: Rs) (fun k => l.length - k) 0 ⟨Nat.zero_le _, by simp; omega⟩ (fun k ⟨h1, h2⟩ => ?_) ⟨rfl, rfl, rfl, congrArg (fun z => some (Value.int .i64 z)) (by simp), rfl, rfl, rfl, trivial⟩
  generalize hcn : ((l.take k).filter (isKind tab w nm)).length = cn at *
  by_cases hk : k < l.length
  · obtain ⟨i, hi⟩ : ∃ i, l[k]? = some i := ⟨_, List.getElem?_eq_getElem hk⟩
    have hi2 := ints_get hi
    have hst := cnt_stp (f := isKind tab w nm) hi
    have miss : isKind tab w nm i = false → ((l.take (k + 1)).filter (isKind tab w nm)).length = cn := fun h => by rw [hst, if_neg (by simp [h]), List.append_nil, hcn]
    have more : isKind tab w nm i = true → ((l.take (k + 1)).filter (isKind tab w nm)).length = cn + 1 := fun h => by rw [hst, if_pos h, List.length_append, hcn]; rfl
    cases hx : w.things[i]? with
    | none =>
      have hge : w.things.length ≤ i := by simpa using hx
      have hf : isKind tab w nm i = false := by simp [isKind, hx]
      refine go ?_
      refine ⟨?_, by simp⟩ <;> intros
      exact rnd (k + 1) ⟨hk, by rw [miss hf]; exact h2⟩ (by omega) ⟨rfl, rfl, rfl, congrArg (fun z => some (Value.int .i64 z)) (by rw [miss hf]), rfl, rfl, rfl, trivial⟩
    | some x =>
      have hlt := (List.getElem?_eq_some_iff.1 hx).1
      have F1 := ProtoP_spec e mt tab x.proto (by omega) R
      cases hc : protoI tab x.proto with
      | none =>
        have hf : isKind tab w nm i = false := by simp [isKind, hx, hc]
        rw [hc, Option.isSome_none] at F1
        generalize proD tab x.proto = y at F1
        refine go ?_
        refine ⟨?_, by simp⟩ <;> intros
        exact rnd (k + 1) ⟨hk, by rw [miss hf]; exact h2⟩ (by omega) ⟨rfl, rfl, rfl, congrArg (fun z => some (Value.int .i64 z)) (by rw [miss hf]), rfl, rfl, rfl, trivial⟩
      | some p =>
        obtain ⟨y, hy, _⟩ := find_get hc
        rw [hc, Option.isSome_some, show proD tab x.proto = y from by rw [proD, hc]; exact getD_of hy] at F1
        have hyes : y.name = nm → isKind tab w nm i = true := fun h => by simp only [isKind, hx, hc, getD_of hy]; simpa using h
        have hno : ¬ y.name = nm → isKind tab w nm i = false := fun h => by simp only [isKind, hx, hc, getD_of hy]; simpa using h
        refine go ?_
        (repeat' (first | exact trivial | apply And.intro | intro _))
        all_goals first
          | (exfalso; omega)
          | (rw [nth_hi hi (hyes (by assumption)) (by rw [hcn]; omega)]; first | rfl | exact ret1 ⟨rfl, rfl⟩)
          | (have hf := hyes (by assumption); exact rnd (k + 1) ⟨hk, by rw [more hf]; omega⟩ (by omega) ⟨rfl, rfl, rfl, congrArg (fun z => some (Value.int .i64 z)) (by rw [more hf]; omega), rfl, rfl, rfl, trivial⟩)
          | (have hf := hno (by assumption); exact rnd (k + 1) ⟨hk, by rw [miss hf]; exact h2⟩ (by omega) ⟨rfl, rfl, rfl, congrArg (fun z => some (Value.int .i64 z)) (by rw [miss hf]), rfl, rfl, rfl, trivial⟩)
  · have hlk : (l.filter (isKind tab w nm)).length = cn := by rw [← hcn, List.take_of_length_le (by omega)]
    rw [nth_no (.inr (by rw [hlk]; exact h2))]
    refine go ?_
    refine ⟨?_, by simp⟩ <;> intros
    first | rfl | exact ret1 ⟨rfl, rfl⟩
end Go.Proofs.YtflmbhkjhfmeoaaGreat
