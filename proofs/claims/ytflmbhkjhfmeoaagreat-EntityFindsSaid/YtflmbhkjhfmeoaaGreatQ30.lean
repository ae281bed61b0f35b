/-
  Walks and laws joined: WdDies EnNamed.
-/
import Derived.Test.YtflmbhkjhfmeoaaGreatQ20
import Derived.Test.YtflmbhkjhfmeoaaGreatQ10
import Derived.Test.YtflmbhkjhfmeoaaGreatQ24
import Derived.Test.YtflmbhkjhfmeoaaGreatQ09
set_option linter.unusedVariables false
set_option linter.unusedSimpArgs false
namespace Go.Proofs.YtflmbhkjhfmeoaaGreat
open Go.SL
set_option maxHeartbeats 8000000
set_option maxRecDepth 20000
theorem of_lt2 (w : Wld) (name : Tx) : ∀ i ∈ ofL w name 2, ∃ x, w.things[i]? = some x := fun i h => by
  obtain ⟨x, hx, _⟩ := pos_mem h
  exact ⟨x, hx⟩
section
variable (t d e : Nat) (m : Lay) (w : Wld) (mt : Tay) (tab : Tab) (S : List Sy) (u : Int)
theorem dies_spec (bw : Bw w) (bt : Bt tab) (lm : Laid m w) (R : HProp) [hr : RT R e mt tab] (c : Nat) (x : Chr) (hx : w.chars[c]? = some x) (hS : S.length ≤ 200000) :
    Trip Tryz.prog 276 [.pointer (some ⟨t, 0, none⟩), .int .i64 (c : Int)] [ts t d e S u, wl d m w, R] (fun v Ps => v = .tuple #[] ∧ Ps = [ts t d e (S ++ (diesA tab w c).2) u, wl d m (diesA tab w c).1, R]) := by
  refine Trip.of (m := 90) Tryz.func276 rfl rfl rfl ?_
  intro o Rs
  simp only [List.cons_append, List.nil_append, enumFrom]
  haveI : Plan 2 [26, 30, 34] [0, 1, 2, 3, 4, 5, 6, 7, 8, 9, 10, 11, 12, 13, 14, 15] := ⟨⟩
  haveI : Plan 3 [41, 45] [0, 1, 2, 3, 4, 5, 6, 7, 8, 9] := ⟨⟩
  haveI : Plan 5 [50, 55, 59] [0, 1, 2, 3, 4, 5, 6, 7, 8, 9, 10, 11, 12, 13, 14, 15, 16] := ⟨⟩
  haveI : Plan 7 [70, 74] [0, 1, 2, 3, 4, 5, 6, 7, 8, 9] := ⟨⟩
  have zc : w.chars.length = (w.chars.zip m.dn).length := by rw [List.length_zip, lm.1, Nat.min_self]
  have hcl := (List.getElem?_eq_some_iff.1 hx).1
  obtain ⟨⟨A0, c0⟩, hz, _⟩ := zip_get hx lm.1
  have b1 := bw.nc
  have b5 := bw.nt
  have hnl := bw.cn x (List.mem_of_getElem? hx)
  have hcp := cap_len x.name
  unfold diesA
  simp only [getD_of hx]
  rw [show S ++ ([(x.name, [89, 111, 117, 32, 100, 105, 101, 46])] ++ othersL w x.room x.name (capT x.name ++ [32, 100, 105, 101, 115, 46])) = S ++ [(x.name, [89, 111, 117, 32, 100, 105, 101, 46])] ++ othersL w x.room x.name (capT x.name ++ [32, 100, 105, 101, 115, 46]) from (List.append_assoc _ _ _).symm]
  obtain ⟨S2, hS2⟩ : ∃ S2, S2 = S ++ [(x.name, [89, 111, 117, 32, 100, 105, 101, 46])] ++ othersL w x.room x.name (capT x.name ++ [32, 100, 105, 101, 115, 46]) := ⟨_, rfl⟩
  have F1 := say_spec t d e S u x.name [89, 111, 117, 32, 100, 105, 101, 46] (by omega)
  have F2 := Cap_spec x.name (by omega)
  have F3 := others_spec t d e m w (S ++ [(x.name, [89, 111, 117, 32, 100, 105, 101, 46])]) u x.room x.name (capT x.name ++ [32, 100, 105, 101, 115, 46]) (by rw [List.length_append]; simp only [List.length_cons, List.length_nil]; omega) b1 lm
  have F4 := Of_spec d m w x.name 2 (by omega) (wl d m w)
  rw [← hS2] at F3 ⊢
  clear hS2
  refine goW ?_
  refine ⟨?_, by simp⟩ <;> intros
  rename_i A cc
  have hol := of_lt2 w x.name
  have hLl : (ofL w x.name 2).length ≤ 100000 := Nat.le_trans (pos_len _ _) b5
  generalize ofL w x.name 2 = L at *
  have hil := ints_len L
  clear F1 F2 F3 F4
  refine loop (σ := Nat × Wld) (fun s => s.1 ≤ L.length ∧ fallGo x.room L w = fallGo x.room (L.drop s.1) s.2 ∧ s.2.chars = w.chars ∧ s.2.things.length = w.things.length ∧ s.2.houses = w.houses ∧ Bw s.2) (fun s => [(0, .pointer (some ⟨t, 0, none⟩)), (4, .pointer (some ⟨bk m.chA, of m.chA + c * 10, none⟩)), (5, .slice A (ints L).length cc), (6, .int .i64 (s.1 : Int))])
    (fun s => wl d m s.2 :: sl E64 3 A cc (ints L) :: ts t d e S2 u :: R :: Rs) (fun s => L.length - s.1) (0, w) ⟨Nat.zero_le _, rfl, rfl, rfl, rfl, bw⟩ ?_
  rintro ⟨k, w1⟩ ⟨hk, hfa, hch, hth, hho, bw1⟩
  simp only at hk hfa hch hth hho ⊢
  have hx1 : w1.chars[c]? = some x := by rw [hch]; exact hx
  have hz1 : (w1.chars.zip m.dn)[c]? = some (x, A0, c0) := by rw [hch]; exact hz
  have zc1 : w1.chars.length = (w1.chars.zip m.dn).length := by rw [hch]; exact zc
  have hcl1 := (List.getElem?_eq_some_iff.1 hx1).1
  have F1 := Here_spec d m w1 x.room (by omega) (wl d m w1)
  have hhl : (ints (hereL w1 x.room)).length = (hereL w1 x.room).length := ints_len _
  clear hx hz zc
  by_cases hk2 : k < L.length
  · obtain ⟨i, hi⟩ : ∃ i, L[k]? = some i := ⟨_, List.getElem?_eq_getElem hk2⟩
    have hi2 := ints_get hi
    obtain ⟨z, hz0⟩ := hol i (List.mem_of_getElem? hi)
    obtain ⟨y, hy⟩ : ∃ y, w1.things[i]? = some y := ⟨_, List.getElem?_eq_getElem (by have := (List.getElem?_eq_some_iff.1 hz0).1; omega)⟩
    have hld : L.drop k = i :: L.drop (k + 1) := by rw [List.drop_eq_getElem_cons hk2, (List.getElem?_eq_some_iff.1 hi).2]
    rw [hld, fallGo] at hfa
    clear hz0 hld hi
    by_cases h30 : (hereL w1 x.room).length < 30
    · rw [if_pos h30] at hfa
      have F2 := put_spec t d e m w1 S2 u bw1 i y hy 1 x.room []
      have hpl : (putW w1 i 1 x.room []).things.length = w1.things.length := by show (w1.things.set i _).length = _; rw [List.length_set]
      have bw2 := bw_put bw1 i 1 x.room []
      replace hfa := Bx.mk hfa
      replace hch := Bx.mk hch
      replace hho := Bx.mk hho
      clear hol
      refine goW ?_
      (repeat' (first | exact trivial | apply And.intro | intro _))
      all_goals first
        | (exfalso; first | contradiction | omega)
        | exact rnd (k + 1, putW w1 i 1 x.room []) ⟨hk2, hfa.get, hch.get, by simp only; omega, hho.get, bw2⟩ (by simp only; omega)
    · rw [if_neg h30] at hfa
      clear hol hy
      rw [hfa, setC_eq hx1]
      clear hfa hch hho
      have F3 := Start_spec e mt tab bt R
      refine goW ?_
      (repeat' (first | exact trivial | apply And.intro | intro _))
      all_goals first
        | (exfalso; first | contradiction | omega)
        | exact ret0 ⟨rfl, rfl⟩
  · rw [List.drop_eq_nil_of_le (by omega), fallGo] at hfa
    clear hol
    rw [hfa, setC_eq hx1]
    clear hfa hch hho
    have F3 := Start_spec e mt tab bt R
    refine goW ?_
    (repeat' (first | exact trivial | apply And.intro | intro _))
    all_goals first
      | (exfalso; first | contradiction | omega)
      | exact ret0 ⟨rfl, rfl⟩
end
end Go.Proofs.YtflmbhkjhfmeoaaGreat
namespace Go.Proofs.YtflmbhkjhfmeoaaGreat
open Go.SL
set_option maxHeartbeats 8000000
set_option maxRecDepth 20000
theorem item_yes (d : Nat) (m : Tay) (t : Tab) (P : HProp) [hp : RT P d m t] (hl : t.protos.length ≤ 60) (n : Int) (hn : ∃ k, protoI t n = some k) (b b2 : Nat) :
    Trip Tryz.prog 253 [.int .i64 n, .pointer (some ⟨b, 0, none⟩), .pointer (some ⟨b2, 0, none⟩)] [blk b 26 [.pointer (some ⟨d, 0, none⟩)], blk b2 4 [.bool true], P] (fun v Ps => v = .tuple #[] ∧ Ps = [blk b 26 [.pointer (some ⟨d, 0, none⟩)], blk b2 4 [.bool true], P]) := by
  refine Trip.of (m := 16) Tryz.func253 rfl rfl rfl ?_
  intro o Rs
  simp only [List.cons_append, List.nil_append, enumFrom]
  obtain ⟨k, hk⟩ := hn
  have F1 := ProtoP_spec d m t n (by omega) P
  rw [hk, Option.isSome_some] at F1
  refine go ?_
  refine ⟨?_, by simp⟩ <;> intros
  exact ret0 ⟨rfl, rfl⟩
theorem named_yes (d : Nat) (m : Tay) (t : Tab) (g : Good t) (lt : TLaid m t) (P : HProp) [hp : RT P d m t] : Trip Tryz.prog 169 [.pointer (some ⟨d, 0, none⟩)] [P] (fun v Ps => v = .bool true ∧ Ps = [P]) := by
  refine Trip.of (m := 163) Tryz.func169 rfl rfl rfl ?_
  intro o Rs
  simp only [List.cons_append, List.nil_append, enumFrom]
  have b1 : t.rooms.length ≤ 60 := by have := g.rr.len; rwa [List.length_map] at this
  have b2 : t.protos.length ≤ 60 := by have := g.rp.len; rwa [List.length_map] at this
  have b3 : t.mobs.length ≤ 60 := by have := g.rm.len; rwa [List.length_map] at this
  have b4 : t.recipes.length ≤ 60 := by have := g.rc.len; rwa [List.length_map] at this
  have b5 : t.quests.length ≤ 60 := by have := g.rq.len; rwa [List.length_map] at this
  have b6 : t.shops.length ≤ 60 := by have := g.rs.len; rwa [List.length_map] at this
  have zr : t.recipes.length = (t.recipes.zip m.nd).length := by rw [List.length_zip, lt.1, Nat.min_self]
  have zs : t.shops.length = (t.shops.zip m.it).length := by rw [List.length_zip, lt.2, Nat.min_self]
  refine go ?_
  refine ⟨?_, by simp⟩ <;> intros
  rename_i o1 o3
  refine loop (fun k => k ≤ t.rooms.length) (fun k => [(1, .pointer (some ⟨o1, 0, none⟩)), (3, .pointer (some ⟨o3, 0, none⟩)), (4, .func (.func 253) #[] #[.pointer (some ⟨o1, 0, none⟩), .pointer (some ⟨o3, 0, none⟩)]), (31, .slice m.roA t.rooms.length m.roC), (32, .int .i64 (t.rooms.length : Int)), (33, .int .i64 (k : Int))])
    (fun k => blk o1 26 [.pointer (some ⟨d, 0, none⟩)] :: blk o3 4 [.bool true] :: P :: Rs) (fun k => t.rooms.length - k) 0 (Nat.zero_le _) fun k h1 => ?_
  by_cases hk : k < t.rooms.length
  · obtain ⟨x, hx⟩ : ∃ x, t.rooms[k]? = some x := ⟨_, List.getElem?_eq_getElem hk⟩
    have hg := g.ro x (List.mem_of_getElem? hx)
    refine go ?_
    refine ⟨?_, by simp⟩ <;> intros
    refine loop (σ := Nat) (fun j => j ≤ 6) (fun j => [(1, .pointer (some ⟨o1, 0, none⟩)), (3, .pointer (some ⟨o3, 0, none⟩)), (4, .func (.func 253) #[] #[.pointer (some ⟨o1, 0, none⟩), .pointer (some ⟨o3, 0, none⟩)]), (31, .slice m.roA t.rooms.length m.roC), (32, .int .i64 (t.rooms.length : Int)), (33, .int .i64 (k : Int)), (38, .agg #[.int .i64 x.e0, .int .i64 x.e1, .int .i64 x.e2, .int .i64 x.e3, .int .i64 x.e4, .int .i64 x.e5]), (39, .int .i64 (j : Int))])
      (fun j => blk o1 26 [.pointer (some ⟨d, 0, none⟩)] :: blk o3 4 [.bool true] :: P :: Rs) (fun j => 6 - j) 0 (Nat.zero_le _) fun j hj => ?_
    by_cases hj2 : j < 6
    · obtain ⟨v, hv⟩ : ∃ v, x.exits[j]? = some v := ⟨_, List.getElem?_eq_getElem hj2⟩
      obtain ⟨he, hr⟩ := hg.ex v (List.mem_of_getElem? hv)
      have hv2 : ([.int .i64 x.e0, .int .i64 x.e1, .int .i64 x.e2, .int .i64 x.e3, .int .i64 x.e4, .int .i64 x.e5] : List Value)[j]? = some (.int .i64 v) := by
        have : ([.int .i64 x.e0, .int .i64 x.e1, .int .i64 x.e2, .int .i64 x.e3, .int .i64 x.e4, .int .i64 x.e5] : List Value) = x.exits.map (.int .i64) := rfl
        rw [this, List.getElem?_map, hv]; rfl
      have F1 := RoomP_spec d m t v (by omega) P
      by_cases h0 : v = 0
      · subst h0
        refine go ?_
        refine ⟨?_, by simp⟩ <;> intros
        exact rnd (j + 1) (by omega) (by omega)
      · obtain ⟨q, hq⟩ := hr.resolve_left h0
        rw [hq, Option.isSome_some] at F1
        refine go ?_
        refine ⟨?_, by simp⟩ <;> intros
        exact rnd (j + 1) (by omega) (by omega)
    · refine go ?_
      refine ⟨?_, by simp⟩ <;> intros
      exact rnd (k + 1) hk (by omega)
  refine go ?_
  refine ⟨?_, by simp⟩ <;> intros
  refine loop (fun k => k ≤ t.mobs.length) (fun k => [(1, .pointer (some ⟨o1, 0, none⟩)), (3, .pointer (some ⟨o3, 0, none⟩)), (4, .func (.func 253) #[] #[.pointer (some ⟨o1, 0, none⟩), .pointer (some ⟨o3, 0, none⟩)]), (61, .slice m.moA t.mobs.length m.moC), (62, .int .i64 (t.mobs.length : Int)), (63, .int .i64 (k : Int))])
    (fun k => blk o1 26 [.pointer (some ⟨d, 0, none⟩)] :: blk o3 4 [.bool true] :: P :: Rs) (fun k => t.mobs.length - k) 0 (Nat.zero_le _) fun k h1 => ?_
  by_cases hk : k < t.mobs.length
  · obtain ⟨x, hx⟩ : ∃ x, t.mobs[k]? = some x := ⟨_, List.getElem?_eq_getElem hk⟩
    obtain ⟨q, hq⟩ := (g.mo x (List.mem_of_getElem? hx)).ho
    have F1 := RoomP_spec d m t x.home (by omega) P
    rw [hq, Option.isSome_some] at F1
    refine go ?_
    refine ⟨?_, by simp⟩ <;> intros
    exact rnd (k + 1) hk (by omega)
  refine go ?_
  refine ⟨?_, by simp⟩ <;> intros
  refine loop (fun k => k ≤ t.recipes.length) (fun k => [(1, .pointer (some ⟨o1, 0, none⟩)), (3, .pointer (some ⟨o3, 0, none⟩)), (4, .func (.func 253) #[] #[.pointer (some ⟨o1, 0, none⟩), .pointer (some ⟨o3, 0, none⟩)]), (82, .slice m.reA t.recipes.length m.reC), (83, .int .i64 (t.recipes.length : Int)), (84, .int .i64 (k : Int))])
    (fun k => blk o1 26 [.pointer (some ⟨d, 0, none⟩)] :: blk o3 4 [.bool true] :: P :: Rs) (fun k => t.recipes.length - k) 0 (Nat.zero_le _) fun k h1 => ?_
  by_cases hk : k < t.recipes.length
  · obtain ⟨x, hx⟩ : ∃ x, t.recipes[k]? = some x := ⟨_, List.getElem?_eq_getElem hk⟩
    obtain ⟨⟨A1, c1⟩, hz, _⟩ := zip_get hx lt.1
    have hg := g.co x (List.mem_of_getElem? hx)
    have hR : Reads P E64 A1 x.needs := hp.nd _ (List.mem_of_getElem? hz)
    haveI : Rd P E64 A1 x.needs := ⟨hR⟩
    have hln := hg.ln
    refine go ?_
    refine ⟨?_, by simp⟩ <;> intros
    rename_i A c
    refine loop (σ := Nat) (fun j => j ≤ x.needs.length + 1) (fun j => [(1, .pointer (some ⟨o1, 0, none⟩)), (3, .pointer (some ⟨o3, 0, none⟩)), (4, .func (.func 253) #[] #[.pointer (some ⟨o1, 0, none⟩), .pointer (some ⟨o3, 0, none⟩)]), (82, .slice m.reA t.recipes.length m.reC), (83, .int .i64 (t.recipes.length : Int)), (84, .int .i64 (k : Int)), (93, .slice A (x.out :: x.needs).length c), (94, .int .i64 ((x.out :: x.needs).length : Int)), (95, .int .i64 (j : Int))])
      (fun j => sl E64 3 A c (x.out :: x.needs) :: blk o1 26 [.pointer (some ⟨d, 0, none⟩)] :: blk o3 4 [.bool true] :: P :: Rs) (fun j => x.needs.length + 1 - j) 0 (Nat.zero_le _) fun j hj => ?_
    by_cases hj2 : j < (x.out :: x.needs).length
    · obtain ⟨v, hv⟩ : ∃ v, (x.out :: x.needs)[j]? = some v := ⟨_, List.getElem?_eq_getElem hj2⟩
      have hpv : ∃ k, protoI t v = some k := by
        rcases List.mem_cons.1 (List.mem_of_getElem? hv) with rfl | hm
        · exact hg.oi
        · exact (hg.id v hm).2
      have F1 := item_yes d m t P b2 v hpv o1 o3
      have hj3 : j < x.needs.length + 1 := hj2
      refine go ?_
      refine ⟨?_, by simp⟩ <;> intros
      exact rnd (j + 1) (by omega) (by omega)
    · have hj3 : ¬ j < x.needs.length + 1 := hj2
      refine go ?_
      refine ⟨?_, by simp⟩ <;> intros
      exact rnd (k + 1) hk (by omega)
  refine go ?_
  refine ⟨?_, by simp⟩ <;> intros
  refine loop (fun k => k ≤ t.quests.length) (fun k => [(1, .pointer (some ⟨o1, 0, none⟩)), (3, .pointer (some ⟨o3, 0, none⟩)), (4, .func (.func 253) #[] #[.pointer (some ⟨o1, 0, none⟩), .pointer (some ⟨o3, 0, none⟩)]), (107, .slice m.quA t.quests.length m.quC), (108, .int .i64 (t.quests.length : Int)), (109, .int .i64 (k : Int))])
    (fun k => blk o1 26 [.pointer (some ⟨d, 0, none⟩)] :: blk o3 4 [.bool true] :: P :: Rs) (fun k => t.quests.length - k) 0 (Nat.zero_le _) fun k h1 => ?_
  by_cases hk : k < t.quests.length
  · obtain ⟨x, hx⟩ : ∃ x, t.quests[k]? = some x := ⟨_, List.getElem?_eq_getElem hk⟩
    have hg := g.qo x (List.mem_of_getElem? hx)
    have F1 := item_yes d m t P b2 x.item hg.it.2 o1 o3
    by_cases h0 : x.reward = 0
    · refine go ?_
      refine ⟨?_, by simp⟩ <;> intros
      exact rnd (k + 1) hk (by omega)
    · have F2 := item_yes d m t P b2 x.reward (hg.re.2.resolve_left h0) o1 o3
      have h3 : 0 < x.reward := by have := hg.re.1; omega
      refine go ?_
      refine ⟨?_, by simp⟩ <;> intros
      exact rnd (k + 1) hk (by omega)
  refine go ?_
  refine ⟨?_, by simp⟩ <;> intros
  refine loop (fun k => k ≤ t.shops.length) (fun k => [(1, .pointer (some ⟨o1, 0, none⟩)), (3, .pointer (some ⟨o3, 0, none⟩)), (4, .func (.func 253) #[] #[.pointer (some ⟨o1, 0, none⟩), .pointer (some ⟨o3, 0, none⟩)]), (128, .slice m.shA t.shops.length m.shC), (129, .int .i64 (t.shops.length : Int)), (130, .int .i64 (k : Int))])
    (fun k => blk o1 26 [.pointer (some ⟨d, 0, none⟩)] :: blk o3 4 [.bool true] :: P :: Rs) (fun k => t.shops.length - k) 0 (Nat.zero_le _) fun k h1 => ?_
  by_cases hk : k < t.shops.length
  · obtain ⟨x, hx⟩ : ∃ x, t.shops[k]? = some x := ⟨_, List.getElem?_eq_getElem hk⟩
    obtain ⟨⟨A1, c1⟩, hz, _⟩ := zip_get hx lt.2
    have hg := g.so x (List.mem_of_getElem? hx)
    have hR : Reads P E64 A1 x.items := hp.it _ (List.mem_of_getElem? hz)
    haveI : Rd P E64 A1 x.items := ⟨hR⟩
    obtain ⟨q, y, hq, hy, hkd⟩ := hg.ro
    have hil := hg.it.len
    have F1 := RoomP_spec d m t x.room (by omega) P
    rw [show rmD t x.room = y from by rw [rmD, hq]; exact getD_of hy, hq, Option.isSome_some] at F1
    refine go ?_
    refine ⟨?_, by simp⟩ <;> intros
    refine loop (σ := Nat) (fun j => j ≤ x.items.length) (fun j => [(1, .pointer (some ⟨o1, 0, none⟩)), (3, .pointer (some ⟨o3, 0, none⟩)), (4, .func (.func 253) #[] #[.pointer (some ⟨o1, 0, none⟩), .pointer (some ⟨o3, 0, none⟩)]), (128, .slice m.shA t.shops.length m.shC), (129, .int .i64 (t.shops.length : Int)), (130, .int .i64 (k : Int)), (151, .slice A1 x.items.length c1), (152, .int .i64 (x.items.length : Int)), (153, .int .i64 (j : Int))])
      (fun j => blk o1 26 [.pointer (some ⟨d, 0, none⟩)] :: blk o3 4 [.bool true] :: P :: Rs) (fun j => x.items.length - j) 0 (Nat.zero_le _) (hh := by simp only [hkd, decide_true]; (exact ent_)) fun j hj => ?_
    by_cases hj2 : j < x.items.length
    · obtain ⟨v, hv⟩ : ∃ v, x.items[j]? = some v := ⟨_, List.getElem?_eq_getElem hj2⟩
      have F1 := item_yes d m t P b2 v (hg.ip v (List.mem_of_getElem? hv)) o1 o3
      refine go ?_
      refine ⟨?_, by simp⟩ <;> intros
      exact rnd (j + 1) hj2 (by omega)
    · refine go ?_
      refine ⟨?_, by simp⟩ <;> intros
      exact rnd (k + 1) hk (by omega)
  refine go ?_
  simp
end Go.Proofs.YtflmbhkjhfmeoaaGreat
