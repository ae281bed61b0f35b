/-
  The program's tables: all that they name is there; they may be.
-/
import Derived.Test.YtckkipangiapbaaGreatEnFind
import Derived.Test.YtckkipangiapbaaGreatEnIn
namespace Go.Proofs.YtckkipangiapbaaGreat
open Go.SL
set_option linter.unusedVariables false
set_option linter.unusedSimpArgs false
set_option maxHeartbeats 8000000
set_option maxRecDepth 20000
theorem item_yes (d : Nat) (m : Tay) (t : Tab) (P : HProp) [hp : RT P d m t] (hl : t.protos.length ≤ 60) (n : Int) (hn : ∃ k, protoI t n = some k) (b b2 : Nat) :
    Trip Tryz.prog 161 [.int .i64 n, .pointer (some ⟨b, 0, none⟩), .pointer (some ⟨b2, 0, none⟩)] [blk b 25 [.pointer (some ⟨d, 0, none⟩)], blk b2 4 [.bool true], P] (fun v Ps => v = .tuple #[] ∧ Ps = [blk b 25 [.pointer (some ⟨d, 0, none⟩)], blk b2 4 [.bool true], P]) := by
  refine Trip.of (m := 16) Tryz.func161 rfl rfl rfl ?_
  intro o Rs
  simp only [List.cons_append, List.nil_append, enumFrom]
  obtain ⟨k, hk⟩ := hn
  have F1 := ProtoP_spec d m t n (by omega) P
  rw [hk, Option.isSome_some] at F1
  refine go ?_
  refine ⟨?_, by simp⟩ <;> intros
  exact ret0 ⟨rfl, rfl⟩
theorem named_yes (d : Nat) (m : Tay) (t : Tab) (g : Good t) (lt : TLaid m t) (P : HProp) [hp : RT P d m t] : Trip Tryz.prog 90 [.pointer (some ⟨d, 0, none⟩)] [P] (fun v Ps => v = .bool true ∧ Ps = [P]) := by
  refine Trip.of (m := 163) Tryz.func90 rfl rfl rfl ?_
  intro o Rs
  simp only [List.cons_append, List.nil_append, enumFrom]
  have b1 : t.rooms.length ≤ 60 := by have := g.rr.len; rwa [List.length_map] at this
  have b2 : t.protos.length ≤ 60 := by have := g.rp.len; rwa [List.length_map] at this
  have b3 : t.mobs.length ≤ 60 := by have := g.rm.len; rwa [List.length_map] at this
  have b4 : t.recipes.length ≤ 60 := by have := g.rc.len; rwa [List.length_map] at this
  have b5 : t.quests.length ≤ 60 := by have := g.rq.len; rwa [List.length_map] at this
  have b6 : t.shops.length ≤ 60 := by have := g.rs.len; rwa [List.length_map] at this
  have zr : t.recipes.length = (t.recipes.zip m.nd).length := by rw [List.length_zip, lt.1, Nat.min_self]
  have zs : t.shops.length = (t.shops.zip m.it).length := by rw [List.length_zip, lt.2, Nat.min_self]
  refine go ?_
  refine ⟨?_, by simp⟩ <;> intros
  rename_i o1 o3
  refine loop (fun k => k ≤ t.rooms.length) (fun k => [(1, .pointer (some ⟨o1, 0, none⟩)), (3, .pointer (some ⟨o3, 0, none⟩)), (4, .func (.func 161) #[] #[.pointer (some ⟨o1, 0, none⟩), .pointer (some ⟨o3, 0, none⟩)]), (31, .slice m.roA t.rooms.length m.roC), (32, .int .i64 (t.rooms.length : Int)), (33, .int .i64 (k : Int))])
    (fun k => blk o1 25 [.pointer (some ⟨d, 0, none⟩)] :: blk o3 4 [.bool true] :: P :: Rs) (fun k => t.rooms.length - k) 0 (Nat.zero_le _) fun k h1 => ?_
  by_cases hk : k < t.rooms.length
  · obtain ⟨x, hx⟩ : ∃ x, t.rooms[k]? = some x := ⟨_, List.getElem?_eq_getElem hk⟩
    have hg := g.ro x (List.mem_of_getElem? hx)
    refine go ?_
    refine ⟨?_, by simp⟩ <;> intros
    refine loop (σ := Nat) (fun j => j ≤ 6) (fun j => [(1, .pointer (some ⟨o1, 0, none⟩)), (3, .pointer (some ⟨o3, 0, none⟩)), (4, .func (.func 161) #[] #[.pointer (some ⟨o1, 0, none⟩), .pointer (some ⟨o3, 0, none⟩)]), (31, .slice m.roA t.rooms.length m.roC), (32, .int .i64 (t.rooms.length : Int)), (33, .int .i64 (k : Int)), (38, .agg #[.int .i64 x.e0, .int .i64 x.e1, .int .i64 x.e2, .int .i64 x.e3, .int .i64 x.e4, .int .i64 x.e5]), (39, .int .i64 (j : Int))])
      (fun j => blk o1 25 [.pointer (some ⟨d, 0, none⟩)] :: blk o3 4 [.bool true] :: P :: Rs) (fun j => 6 - j) 0 (Nat.zero_le _) fun j hj => ?_
    by_cases hj2 : j < 6
    · obtain ⟨v, hv⟩ : ∃ v, x.exits[j]? = some v := ⟨_, List.getElem?_eq_getElem hj2⟩
      obtain ⟨he, hr⟩ := hg.ex v (List.mem_of_getElem? hv)
      have hv2 : ([.int .i64 x.e0, .int .i64 x.e1, .int .i64 x.e2, .int .i64 x.e3, .int .i64 x.e4, .int .i64 x.e5] : List Value)[j]? = some (.int .i64 v) := by
        have : ([.int .i64 x.e0, .int .i64 x.e1, .int .i64 x.e2, .int .i64 x.e3, .int .i64 x.e4, .int .i64 x.e5] : List Value) = x.exits.map (.int .i64) := rfl
        rw [this, List.getElem?_map, hv]; rfl
      have F1 := RoomP_spec d m t v (by omega) P
      by_cases h0 : v = 0
      · subst h0
        refine go ?_
        refine ⟨?_, by simp⟩ <;> intros
        exact rnd (j + 1) (by omega) (by omega)
      · obtain ⟨q, hq⟩ := hr.resolve_left h0
        rw [hq, Option.isSome_some] at F1
        refine go ?_
        refine ⟨?_, by simp⟩ <;> intros
        exact rnd (j + 1) (by omega) (by omega)
    · refine go ?_
      refine ⟨?_, by simp⟩ <;> intros
      exact rnd (k + 1) hk (by omega)
  refine go ?_
  refine ⟨?_, by simp⟩ <;> intros
  refine loop (fun k => k ≤ t.mobs.length) (fun k => [(1, .pointer (some ⟨o1, 0, none⟩)), (3, .pointer (some ⟨o3, 0, none⟩)), (4, .func (.func 161) #[] #[.pointer (some ⟨o1, 0, none⟩), .pointer (some ⟨o3, 0, none⟩)]), (61, .slice m.moA t.mobs.length m.moC), (62, .int .i64 (t.mobs.length : Int)), (63, .int .i64 (k : Int))])
    (fun k => blk o1 25 [.pointer (some ⟨d, 0, none⟩)] :: blk o3 4 [.bool true] :: P :: Rs) (fun k => t.mobs.length - k) 0 (Nat.zero_le _) fun k h1 => ?_
  by_cases hk : k < t.mobs.length
  · obtain ⟨x, hx⟩ : ∃ x, t.mobs[k]? = some x := ⟨_, List.getElem?_eq_getElem hk⟩
    obtain ⟨q, hq⟩ := (g.mo x (List.mem_of_getElem? hx)).ho
    have F1 := RoomP_spec d m t x.home (by omega) P
    rw [hq, Option.isSome_some] at F1
    refine go ?_
    refine ⟨?_, by simp⟩ <;> intros
    exact rnd (k + 1) hk (by omega)
  refine go ?_
  refine ⟨?_, by simp⟩ <;> intros
  refine loop (fun k => k ≤ t.recipes.length) (fun k => [(1, .pointer (some ⟨o1, 0, none⟩)), (3, .pointer (some ⟨o3, 0, none⟩)), (4, .func (.func 161) #[] #[.pointer (some ⟨o1, 0, none⟩), .pointer (some ⟨o3, 0, none⟩)]), (82, .slice m.reA t.recipes.length m.reC), (83, .int .i64 (t.recipes.length : Int)), (84, .int .i64 (k : Int))])
    (fun k => blk o1 25 [.pointer (some ⟨d, 0, none⟩)] :: blk o3 4 [.bool true] :: P :: Rs) (fun k => t.recipes.length - k) 0 (Nat.zero_le _) fun k h1 => ?_
  by_cases hk : k < t.recipes.length
  · obtain ⟨x, hx⟩ : ∃ x, t.recipes[k]? = some x := ⟨_, List.getElem?_eq_getElem hk⟩
    obtain ⟨⟨A1, c1⟩, hz, _⟩ := zip_get hx lt.1
    have hg := g.co x (List.mem_of_getElem? hx)
    have hR : Reads P E64 A1 x.needs := hp.nd _ (List.mem_of_getElem? hz)
    haveI : Rd P E64 A1 x.needs := ⟨hR⟩
    have hln := hg.ln
    refine go ?_
    refine ⟨?_, by simp⟩ <;> intros
    rename_i A c
    refine loop (σ := Nat) (fun j => j ≤ x.needs.length + 1) (fun j => [(1, .pointer (some ⟨o1, 0, none⟩)), (3, .pointer (some ⟨o3, 0, none⟩)), (4, .func (.func 161) #[] #[.pointer (some ⟨o1, 0, none⟩), .pointer (some ⟨o3, 0, none⟩)]), (82, .slice m.reA t.recipes.length m.reC), (83, .int .i64 (t.recipes.length : Int)), (84, .int .i64 (k : Int)), (93, .slice A (x.out :: x.needs).length c), (94, .int .i64 ((x.out :: x.needs).length : Int)), (95, .int .i64 (j : Int))])
      (fun j => sl E64 3 A c (x.out :: x.needs) :: blk o1 25 [.pointer (some ⟨d, 0, none⟩)] :: blk o3 4 [.bool true] :: P :: Rs) (fun j => x.needs.length + 1 - j) 0 (Nat.zero_le _) fun j hj => ?_
    by_cases hj2 : j < (x.out :: x.needs).length
    · obtain ⟨v, hv⟩ : ∃ v, (x.out :: x.needs)[j]? = some v := ⟨_, List.getElem?_eq_getElem hj2⟩
      have hpv : ∃ k, protoI t v = some k := by
        rcases List.mem_cons.1 (List.mem_of_getElem? hv) with rfl | hm
        · exact hg.oi
        · exact (hg.id v hm).2
      have F1 := item_yes d m t P b2 v hpv o1 o3
      have hj3 : j < x.needs.length + 1 := hj2
      refine go ?_
      refine ⟨?_, by simp⟩ <;> intros
      exact rnd (j + 1) (by omega) (by omega)
    · have hj3 : ¬ j < x.needs.length + 1 := hj2
      refine go ?_
      refine ⟨?_, by simp⟩ <;> intros
      exact rnd (k + 1) hk (by omega)
  refine go ?_
  refine ⟨?_, by simp⟩ <;> intros
  refine loop (fun k => k ≤ t.quests.length) (fun k => [(1, .pointer (some ⟨o1, 0, none⟩)), (3, .pointer (some ⟨o3, 0, none⟩)), (4, .func (.func 161) #[] #[.pointer (some ⟨o1, 0, none⟩), .pointer (some ⟨o3, 0, none⟩)]), (107, .slice m.quA t.quests.length m.quC), (108, .int .i64 (t.quests.length : Int)), (109, .int .i64 (k : Int))])
    (fun k => blk o1 25 [.pointer (some ⟨d, 0, none⟩)] :: blk o3 4 [.bool true] :: P :: Rs) (fun k => t.quests.length - k) 0 (Nat.zero_le _) fun k h1 => ?_
  by_cases hk : k < t.quests.length
  · obtain ⟨x, hx⟩ : ∃ x, t.quests[k]? = some x := ⟨_, List.getElem?_eq_getElem hk⟩
    have hg := g.qo x (List.mem_of_getElem? hx)
    have F1 := item_yes d m t P b2 x.item hg.it.2 o1 o3
    by_cases h0 : x.reward = 0
    · refine go ?_
      refine ⟨?_, by simp⟩ <;> intros
      exact rnd (k + 1) hk (by omega)
    · have F2 := item_yes d m t P b2 x.reward (hg.re.2.resolve_left h0) o1 o3
      have h3 : 0 < x.reward := by have := hg.re.1; omega
      refine go ?_
      refine ⟨?_, by simp⟩ <;> intros
      exact rnd (k + 1) hk (by omega)
  refine go ?_
  refine ⟨?_, by simp⟩ <;> intros
  refine loop (fun k => k ≤ t.shops.length) (fun k => [(1, .pointer (some ⟨o1, 0, none⟩)), (3, .pointer (some ⟨o3, 0, none⟩)), (4, .func (.func 161) #[] #[.pointer (some ⟨o1, 0, none⟩), .pointer (some ⟨o3, 0, none⟩)]), (128, .slice m.shA t.shops.length m.shC), (129, .int .i64 (t.shops.length : Int)), (130, .int .i64 (k : Int))])
    (fun k => blk o1 25 [.pointer (some ⟨d, 0, none⟩)] :: blk o3 4 [.bool true] :: P :: Rs) (fun k => t.shops.length - k) 0 (Nat.zero_le _) fun k h1 => ?_
  by_cases hk : k < t.shops.length
  · obtain ⟨x, hx⟩ : ∃ x, t.shops[k]? = some x := ⟨_, List.getElem?_eq_getElem hk⟩
    obtain ⟨⟨A1, c1⟩, hz, _⟩ := zip_get hx lt.2
    have hg := g.so x (List.mem_of_getElem? hx)
    have hR : Reads P E64 A1 x.items := hp.it _ (List.mem_of_getElem? hz)
    haveI : Rd P E64 A1 x.items := ⟨hR⟩
    obtain ⟨q, y, hq, hy, hkd⟩ := hg.ro
    have hil := hg.it.len
    have F1 := RoomP_spec d m t x.room (by omega) P
    rw [show rmD t x.room = y from by rw [rmD, hq]; exact getD_of hy, hq, Option.isSome_some] at F1
    refine go ?_
    refine ⟨?_, by simp⟩ <;> intros
    refine loop (σ := Nat) (fun j => j ≤ x.items.length) (fun j => [(1, .pointer (some ⟨o1, 0, none⟩)), (3, .pointer (some ⟨o3, 0, none⟩)), (4, .func (.func 161) #[] #[.pointer (some ⟨o1, 0, none⟩), .pointer (some ⟨o3, 0, none⟩)]), (128, .slice m.shA t.shops.length m.shC), (129, .int .i64 (t.shops.length : Int)), (130, .int .i64 (k : Int)), (151, .slice A1 x.items.length c1), (152, .int .i64 (x.items.length : Int)), (153, .int .i64 (j : Int))])
      (fun j => blk o1 25 [.pointer (some ⟨d, 0, none⟩)] :: blk o3 4 [.bool true] :: P :: Rs) (fun j => x.items.length - j) 0 (Nat.zero_le _) (hh := by simp only [hkd, decide_true]; (focus ((repeat (first | exact Ent.done | with_reducible exact Ent.same | (apply Ent.take; (first | (focus (with_reducible iterate 40 first | done | exact .here | apply Find.there); done) | (focus (iterate 40 first | done | exact .here | apply Find.there); done))) | (apply Ent.emp (sl_emp _ _)) | apply Ent.drop)); first | done | fail))) fun j hj => ?_
    by_cases hj2 : j < x.items.length
    · obtain ⟨v, hv⟩ : ∃ v, x.items[j]? = some v := ⟨_, List.getElem?_eq_getElem hj2⟩
      have F1 := item_yes d m t P b2 v (hg.ip v (List.mem_of_getElem? hv)) o1 o3
      refine go ?_
      refine ⟨?_, by simp⟩ <;> intros
      exact rnd (j + 1) hj2 (by omega)
    · refine go ?_
      refine ⟨?_, by simp⟩ <;> intros
      exact rnd (k + 1) hk (by omega)
  refine go ?_
  simp
end Go.Proofs.YtckkipangiapbaaGreat
