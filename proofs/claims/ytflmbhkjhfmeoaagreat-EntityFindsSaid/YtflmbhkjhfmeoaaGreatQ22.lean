/-
  Walks and laws joined: WdHouse.
-/
import Derived.Test.YtflmbhkjhfmeoaaGreatQ20
import Derived.Test.YtflmbhkjhfmeoaaGreatQ10
import Derived.Test.YtflmbhkjhfmeoaaGreatQ21
set_option linter.unusedVariables false
set_option linter.unusedSimpArgs false
namespace Go.Proofs.YtflmbhkjhfmeoaaGreat
open Go.SL
set_option maxHeartbeats 8000000
set_option maxRecDepth 20000
theorem roomK_get {t : Tab} {w : Wld} {c : Nat} {x : Chr} (hx : w.chars[c]? = some x) {z : Int} (h : roomK t w c = z) (hz : z ≠ -1) : ∃ k r, roomI t x.room = some k ∧ t.rooms[k]? = some r ∧ r.kind = z := by
  unfold roomK at h
  rw [getD_of hx] at h
  split at h
  · exact absurd h.symm hz
  · rename_i k hk
    obtain ⟨r, hr, _⟩ := find_get hk
    rw [getD_of hr] at h
    exact ⟨k, r, hk, hr, h⟩
section
variable (t d e : Nat) (m : Lay) (w : Wld) (mt : Tay) (tab : Tab) (S : List Sy) (u : Int)
def ltH (a b : Hse) : Bool := decide (a.room < b.room)
def ltH2 (a b : Hse × PA) : Bool := decide (a.1.room < b.1.room)
theorem insK_zip {α β : Type} (lt : α → α → Bool) (lt2 : α × β → α × β → Bool) (hlt : ∀ a b, lt2 a b = lt a.1 b.1) (l : List α) (m : List β) (h : m.length = l.length) (x : α) (y : β) : ∀ k, k ≤ l.length → insK lt2 (l.zip m) (x, y) k = insK lt l x k
  | 0, _ => rfl
  | k + 1, hk => by
    obtain ⟨a, ha⟩ : ∃ a, l[k]? = some a := ⟨_, List.getElem?_eq_getElem (by omega)⟩
    obtain ⟨b, hz, _⟩ := zip_get ha h
    rw [insK, insK, hz, ha]
    simp only [hlt, insK_zip lt lt2 hlt l m h x y k (by omega)]
theorem insB_zip {α β : Type} (lt : α → α → Bool) (lt2 : α × β → α × β → Bool) (hlt : ∀ a b, lt2 a b = lt a.1 b.1) (l : List α) (m : List β) (h : m.length = l.length) (x : α) (y : β) : insB lt2 (l.zip m) (x, y) = putAt (l.zip m) (insP lt l x) (x, y) := by
  have hz : (l.zip m).length = l.length := by rw [List.length_zip, h, Nat.min_self]
  unfold insB insP
  rw [hz, insK_zip lt lt2 hlt l m h x y _ (Nat.le_refl _)]
theorem BuyHouse_spec (bw : Bw w) (bt : Bt tab) (lm : Laid m w) (R : HProp) [hr : RT R e mt tab] (name : Tx) (hn : name.length ≤ 10000) (hb : ∀ x ∈ w.chars, 0 ≤ x.gold ∧ x.gold ≤ 4611686018427387904) (hpr : ∀ r ∈ tab.rooms, 0 ≤ r.price ∧ r.price ≤ 1099511627776) (hmi : -4611686018427387904 ≤ w.minted ∧ w.minted ≤ 4611686018427387904) (hS : S.length ≤ 200000) :
    Trip Tryz.prog 270 [.pointer (some ⟨t, 0, none⟩), str name] [ts t d e S u, wl d m w, R] (fun v Ps => ∃ m', v = .tuple #[] ∧ Ps = [ts t d e (S ++ (buyHouseA tab w name).2) u, wl d m' (buyHouseA tab w name).1, R]) := by
  refine Trip.of (m := 161) Tryz.func270 rfl rfl rfl ?_
  intro o Rs
  simp only [List.cons_append, List.nil_append, enumFrom]
  haveI : Plan 7 [44, 47, 51] [0, 1, 2, 3, 4, 5, 6, 7, 8, 9, 10, 11, 12, 13, 14, 15, 16] := ⟨⟩
  haveI : Plans 16 [135, 137, 141] [9, 10, 11, 12] [[0, 1, 2, 3, 4, 5, 6, 7, 8, 9, 10, 11, 12], [0, 1, 2, 3, 4, 5, 6, 7, 8, 10, 9, 11, 12]] := ⟨⟩
  unfold buyHouseA
  have zc : w.chars.length = (w.chars.zip m.dn).length := by rw [List.length_zip, lm.1, Nat.min_self]
  have F1 := on_spec t d e m w S u bw lm name
  rcases hc : onI w name with _ | c
  · rw [hc] at F1
    simp only [iv] at F1 ⊢
    refine goW ?_
    refine ⟨?_, by simp⟩ <;> intros
    exact ret0 ⟨m, rfl, by rw [List.append_nil]⟩
  obtain ⟨x, hx, hon, hnm⟩ := on_get hc
  have hcl := (List.getElem?_eq_some_iff.1 hx).1
  obtain ⟨⟨A0, c0⟩, hz, _⟩ := zip_get hx lm.1
  rw [hc] at F1
  simp only [iv, getD_of hx] at F1 ⊢
  have F2 := roomKind_spec t d e m w mt tab S u bw bt lm R c x hx
  by_cases hrk : roomK tab w c = 4
  case neg =>
    rw [if_pos hrk]
    have F3 := say_spec t d e S u name [84, 104, 105, 115, 32, 105, 115, 32, 110, 111, 32, 104, 111, 117, 115, 101, 46] (by omega)
    refine goW ?_
    refine ⟨?_, by simp⟩ <;> intros
    exact ret0 ⟨m, rfl, rfl⟩
  obtain ⟨kr, r, hkr, hr2, hk4⟩ := roomK_get hx hrk (by decide)
  rw [hrk] at F2
  rw [if_neg (by simp [hrk])]
  have F3 := house_spec t d e m w S u bw lm x.room
  cases hho : houseI w x.room with
  | some q =>
    rw [hho] at F3
    simp only [iv, Option.isSome_some, if_true] at F3 ⊢
    have F4 := say_spec t d e S u name [73, 116, 32, 105, 115, 32, 115, 111, 108, 100, 46] (by omega)
    refine goW ?_
    refine ⟨?_, by simp⟩ <;> intros
    exact ret0 ⟨m, rfl, rfl⟩
  | none =>
    rw [hho] at F3
    simp only [iv, Option.isSome_none, Bool.false_eq_true, if_false] at F3 ⊢
    have hrl := find_lt hkr
    have bnr := bt.nr
    have F4 := Room_spec e mt tab x.room (by omega) R
    rw [hkr] at F4 ⊢
    simp only [iv, getD_of hr2] at F4 ⊢
    have hg := hb x (List.mem_of_getElem? hx)
    have hp := hpr r (List.mem_of_getElem? hr2)
    by_cases hlt : x.gold < r.price
    · rw [if_pos hlt]
      have F5 := say_spec t d e S u name [89, 111, 117, 32, 99, 97, 110, 110, 111, 116, 32, 112, 97, 121, 46] (by omega)
      refine goW ?_
      refine ⟨?_, by simp⟩ <;> intros
      exact ret0 ⟨m, rfl, rfl⟩
    rw [if_neg hlt, setC_eq hx, show x.gold - r.price = x.gold + -r.price from Int.sub_eq_add_neg, show w.minted - r.price = w.minted + -r.price from Int.sub_eq_add_neg]
    have bh := bw.nh
    have zh : w.houses.length = (w.houses.zip m.gs).length := by rw [List.length_zip, lm.2, Nat.min_self]
    clear hrk hkr hho
    obtain ⟨zs, hzs⟩ : ∃ zs, zs = w.houses.zip m.gs := ⟨_, rfl⟩
    obtain ⟨z, hze⟩ : ∃ z, z = ((⟨x.room, name, [], 0⟩ : Hse), ((none, 0) : PA)) := ⟨_, rfl⟩
    obtain ⟨w1, hw1⟩ : ∃ w1, w1 = { w with chars := w.chars.set c { x with gold := x.gold + -r.price }, minted := w.minted + -r.price } := ⟨_, rfl⟩
    have hzl : zs.length = w.houses.length := by rw [hzs]; exact zh.symm
    refine goW ?_
    (repeat' (first | exact trivial | apply And.intro | intro _))
    rename Option Addr => A'
    rename Nat => c'
    rw [← hze, ← hzs]
    refine loop (σ := Nat) (fun k => k ≤ zs.length ∧ insK ltH2 zs z k = insP ltH2 zs z) (fun k => [(0, .pointer (some ⟨t, 0, none⟩)), (1, str name), (7, .slice A' (zs ++ [z]).length c'), (8, .int .i64 (k : Int))]) (fun k => sl Eh 107 A' c' (putAt zs k z) :: ts t d e S u :: wl d m w1 :: R :: Rs) (fun k => k) zs.length ⟨Nat.le_refl _, rfl⟩ ?_ ⟨rfl, rfl, rfl, congrArg (fun z => some (Value.int .i64 z)) (by rw [List.length_append]; simp), trivial⟩ (by rw [putAt_end, hw1]; (exact ent_))
    rintro k ⟨hk1, hk2⟩
    have hpl := putAt_len zs k z
    have hal : (zs ++ [z]).length = zs.length + 1 := by rw [List.length_append]; rfl
    have hps := putAt_self hk1 z
    clear hx hz hcl zc hb hpr F1 F2 F3 F4 hr2 hrl
    have hw1h : w1.houses = w.houses := by rw [hw1]
    by_cases hk0 : 0 < k
    · obtain ⟨y, hy⟩ : ∃ y, zs[k - 1]? = some y := ⟨_, List.getElem?_eq_getElem (by omega)⟩
      have hy2 : (putAt zs k z)[((k : Int) - 1).toNat]? = some y := by rw [show ((k : Int) - 1).toNat = k - 1 by omega, putAt_pre (by omega) hk1]; exact hy
      have hsw := putAt_swap hk0 hy z
      rw [show k - 1 = ((k : Int) - 1).toNat by omega] at hsw
      generalize hL : putAt zs k z = L at *
      by_cases hlt2 : z.1.room < y.1.room
      · have hgo := ins_go hk2 hk0 hy (show ltH2 z y = true from decide_eq_true hlt2)
        clear hk2 hy
        replace hsw := Bx.mk hsw
        replace hgo := Bx.mk hgo
        refine goW ?_
        (repeat' (first | exact trivial | apply And.intro | intro _))
        all_goals (
          refine W.sta (En := Eh) (m := 4) (sz := 4) z (by exact rfl) (by exact rfl) (by exact find_) rfl rfl (by omega) rfl rfl (by exact incl_) ?_
          refine goW ?_
          refine ⟨?_, by simp⟩
          refine W.sta (En := Eh) (m := 4) (sz := 4) y (by exact rfl) (by exact rfl) (by exact find_) rfl rfl (by rw [List.length_set]; omega) rfl rfl (by exact incl_) ?_
          refine goW ?_
          refine ⟨?_, by simp⟩
          exact rnd (k - 1) ⟨by omega, hgo.get⟩ (by omega) ⟨rfl, rfl, rfl, congrArg (fun z => some (Value.int .i64 z)) (by omega), trivial⟩ (by rw [hsw.get, show ((k : Int) - 1).toNat = k - 1 by omega]; (exact ent_)))
      · have hend := ins_end hk2 hk0 hy (show ltH2 z y = false from decide_eq_false hlt2)
        rw [hL] at hend
        clear hk2 hy
        have F5 := say_spec t d e S u name [73, 116, 32, 105, 115, 32, 121, 111, 117, 114, 115, 46] (by omega)
        refine goW ?_
        (repeat' (first | exact trivial | apply And.intro | intro _))
        refine W.newHs (hz := L) (insB ltH w.houses ⟨x.room, name, [], 0⟩) (putAt m.gs (insP ltH w.houses ⟨x.room, name, [], 0⟩) (none, 0)) (by exact rfl) (by exact rfl) (by exact find_) (by exact find_) (by rw [hend, hzs, hze, insB_zip ltH ltH2 (fun _ _ => rfl) _ _ lm.2, putAt_zip lm.2]; rfl) (by rw [putAt_len, lm.2]; exact (putAt_len _ _ _).symm) (by rw [hal, hzl]; exact (putAt_len _ _ _).symm) (by exact incl_) (fun st q hst => ?_) ?_
        · have hg1 : gsL w1 m = gsL w m := by simp only [gsL, hw1h]
          rw [hg1] at hst
          have h2 := nest_putAt (insP ltH w.houses ⟨x.room, name, [], 0⟩) hst
          show Sat o st (nest Enc.str 9 (((putAt w.houses _ _).zip (putAt m.gs _ _)).map fun p => (p.1.guests, p.2)) :: q)
          rw [← putAt_zip lm.2, putAt_map]
          exact h2
        refine goW ?_
        (repeat' (first | exact trivial | apply And.intro | intro _))
        subst hw1
        exact ret0 ⟨_, rfl, rfl⟩
    · have hk3 : k = 0 := by omega
      subst hk3
      have hend := ins_nil hk2
      generalize putAt zs 0 z = L at *
      clear hk2
      have F5 := say_spec t d e S u name [73, 116, 32, 105, 115, 32, 121, 111, 117, 114, 115, 46] (by omega)
      refine goW ?_
      (repeat' (first | exact trivial | apply And.intro | intro _))
      refine W.newHs (hz := L) (insB ltH w.houses ⟨x.room, name, [], 0⟩) (putAt m.gs (insP ltH w.houses ⟨x.room, name, [], 0⟩) (none, 0)) (by exact rfl) (by exact rfl) (by exact find_) (by exact find_) (by rw [hend, hzs, hze, insB_zip ltH ltH2 (fun _ _ => rfl) _ _ lm.2, putAt_zip lm.2]; rfl) (by rw [putAt_len, lm.2]; exact (putAt_len _ _ _).symm) (by rw [hal, hzl]; exact (putAt_len _ _ _).symm) (by exact incl_) (fun st q hst => ?_) ?_
      · have hg1 : gsL w1 m = gsL w m := by simp only [gsL, hw1h]
        rw [hg1] at hst
        have h2 := nest_putAt (insP ltH w.houses ⟨x.room, name, [], 0⟩) hst
        show Sat o st (nest Enc.str 9 (((putAt w.houses _ _).zip (putAt m.gs _ _)).map fun p => (p.1.guests, p.2)) :: q)
        rw [← putAt_zip lm.2, putAt_map]
        exact h2
      refine goW ?_
      (repeat' (first | exact trivial | apply And.intro | intro _))
      subst hw1
      exact ret0 ⟨_, rfl, rfl⟩
end
end Go.Proofs.YtflmbhkjhfmeoaaGreat
