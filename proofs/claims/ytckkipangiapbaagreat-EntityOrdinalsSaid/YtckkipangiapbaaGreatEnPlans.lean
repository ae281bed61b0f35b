/-
  The program's tables: recipes, errands and shops by themselves; all by themselves.
-/
import Derived.Test.YtckkipangiapbaaGreatEnThings
import Derived.Test.YtckkipangiapbaaGreatEnDb
import Derived.Test.YtckkipangiapbaaGreatEnGen
namespace Go.Proofs.YtckkipangiapbaaGreat
open Go.SL
set_option linter.unusedVariables false
set_option linter.unusedSimpArgs false
set_option maxHeartbeats 8000000
set_option maxRecDepth 20000
theorem plans_yes (d : Nat) (m : Tay) (t : Tab) (g : Good t) (lt : TLaid m t) (P : HProp) [hp : RT P d m t] : Trip Tryz.prog 160 [.pointer (some ⟨d, 0, none⟩)] [P] (fun v Ps => v = .bool true ∧ Ps = [P]) := by
  refine Trip.of (m := 87) Tryz.func160 rfl rfl rfl ?_
  intro o Rs
  simp only [List.cons_append, List.nil_append, enumFrom]
  have b1 : t.recipes.length ≤ 60 := by have := g.rc.len; rwa [List.length_map] at this
  have b2 : t.quests.length ≤ 60 := by have := g.rq.len; rwa [List.length_map] at this
  have b3 : t.shops.length ≤ 60 := by have := g.rs.len; rwa [List.length_map] at this
  have zr : t.recipes.length = (t.recipes.zip m.nd).length := by rw [List.length_zip, lt.1, Nat.min_self]
  have zs : t.shops.length = (t.shops.zip m.it).length := by rw [List.length_zip, lt.2, Nat.min_self]
  refine go ?_
  refine ⟨?_, by simp⟩ <;> intros
  refine loop (fun k => k ≤ t.recipes.length) (fun k => [(0, .pointer (some ⟨d, 0, none⟩)), (12, .slice m.reA t.recipes.length m.reC), (13, .int .i64 (t.recipes.length : Int)), (14, .int .i64 (k : Int))]) (fun k => P :: Rs) (fun k => t.recipes.length - k) 0 (Nat.zero_le _) fun k h1 => ?_
  by_cases hk : k < t.recipes.length
  · obtain ⟨x, hx⟩ : ∃ x, t.recipes[k]? = some x := ⟨_, List.getElem?_eq_getElem hk⟩
    obtain ⟨⟨A1, c1⟩, hz, _⟩ := zip_get hx lt.1
    have hg := g.co x (List.mem_of_getElem? hx)
    have hR : Reads P E64 A1 x.needs := hp.nd _ (List.mem_of_getElem? hz)
    have hln := hg.ln
    have F1 := in_yes (x.needs.length : Int) 1 5 (by omega) (by omega)
    have F2 := sorted_yes x.needs A1 c1 (by omega) hg.up P hR
    have hb : (x.needs.any fun _ => false) = false := by simp
    have F3 := ct_int x.needs A1 c1 (by omega) P hR 189 [] [P] [] .here (fun _ => false) (fun n hn => by
      have h := notid n (hg.id n hn).1
      exact ⟨fun o w Rs hw => Calls.mono (h.run o w ([P] ++ Rs) hw) fun e w' ⟨v, Ps, he, ⟨hv, hPs⟩, hs⟩ => ⟨v, [P], he, ⟨hv, rfl⟩, by subst hPs; exact hs⟩⟩)
    rw [hb] at F3
    refine go ?_
    refine ⟨?_, by simp⟩ <;> intros
    exact rnd (k + 1) hk (by omega)
  refine go ?_
  refine ⟨?_, by simp⟩ <;> intros
  refine loop (fun k => k ≤ t.quests.length) (fun k => [(0, .pointer (some ⟨d, 0, none⟩)), (38, .slice m.quA t.quests.length m.quC), (39, .int .i64 (t.quests.length : Int)), (40, .int .i64 (k : Int))]) (fun k => P :: Rs) (fun k => t.quests.length - k) 0 (Nat.zero_le _) fun k h1 => ?_
  by_cases hk : k < t.quests.length
  · obtain ⟨x, hx⟩ : ∃ x, t.quests[k]? = some x := ⟨_, List.getElem?_eq_getElem hk⟩
    have hg := g.qo x (List.mem_of_getElem? hx)
    have F1 := id_yes x.item hg.it.1
    have F2 := in_yes x.count 1 5 hg.ct.1 hg.ct.2
    have F3 := in_yes x.gold 0 1073741824 hg.go.1 hg.go.2
    have F4 := in_yes x.reward 0 1000 hg.re.1.1 hg.re.1.2
    refine go ?_
    refine ⟨?_, by simp⟩ <;> intros
    exact rnd (k + 1) hk (by omega)
  refine go ?_
  refine ⟨?_, by simp⟩ <;> intros
  refine loop (fun k => k ≤ t.shops.length) (fun k => [(0, .pointer (some ⟨d, 0, none⟩)), (70, .slice m.shA t.shops.length m.shC), (71, .int .i64 (t.shops.length : Int)), (72, .int .i64 (k : Int))]) (fun k => P :: Rs) (fun k => t.shops.length - k) 0 (Nat.zero_le _) fun k h1 => ?_
  by_cases hk : k < t.shops.length
  · obtain ⟨x, hx⟩ : ∃ x, t.shops[k]? = some x := ⟨_, List.getElem?_eq_getElem hk⟩
    obtain ⟨⟨A1, c1⟩, hz, _⟩ := zip_get hx lt.2
    have hg := g.so x (List.mem_of_getElem? hx)
    have hR : Reads P E64 A1 x.items := hp.it _ (List.mem_of_getElem? hz)
    have F1 := in_yes x.till 0 1073741824 hg.ti.1 hg.ti.2
    have F2 := rise_in x.items A1 c1 8 (by rw [List.map_id']; exact hg.it) (by decide) P hR
    refine go ?_
    refine ⟨?_, by simp⟩ <;> intros
    exact rnd (k + 1) hk (by omega)
  refine go ?_
  simp
theorem zip_map1 {α β γ : Type} (f : α → γ) : ∀ (l : List α) (r : List β), r.length = l.length → ((l.zip r).map fun x => f x.1) = l.map f
  | [], _, _ => by simp
  | a :: l, [], h => by cases h
  | a :: l, b :: r, h => by simp only [List.zip_cons_cons, List.map_cons, zip_map1 f l r (by simpa using h)]
theorem right_yes (d : Nat) (m : Tay) (t : Tab) (g : Good t) (lt : TLaid m t) (P : HProp) [hp : RT P d m t] : Trip Tryz.prog 88 [.pointer (some ⟨d, 0, none⟩)] [P] (fun v Ps => v = .bool true ∧ Ps = [P]) := by
  refine Trip.of (m := 63) Tryz.func88 rfl rfl rfl ?_
  intro o Rs
  simp only [List.cons_append, List.nil_append, enumFrom]
  have b0 := g.ne
  have b1 : t.rooms.length ≤ 60 := by have := g.rr.len; rwa [List.length_map] at this
  have zr : t.recipes.length = (t.recipes.zip m.nd).length := by rw [List.length_zip, lt.1, Nat.min_self]
  have zs : t.shops.length = (t.shops.zip m.it).length := by rw [List.length_zip, lt.2, Nat.min_self]
  have F1 := rise_rm t.rooms m.roA m.roC 60 g.rr (by decide) P hp.ro
  have F2 := rise_pr t.protos m.prA m.prC 60 g.rp (by decide) P hp.pr
  have F3 := rise_mo t.mobs m.moA m.moC 60 g.rm (by decide) P hp.mo
  have F4 := rise_rc (t.recipes.zip m.nd) m.reA m.reC 60 (by rw [zip_map1 _ _ _ lt.1]; exact g.rc) (by decide) P hp.re
  have F5 := rise_qu t.quests m.quA m.quC 60 g.rq (by decide) P hp.qu
  have F6 := rise_sh (t.shops.zip m.it) m.shA m.shC 60 (by rw [zip_map1 _ _ _ lt.2]; exact g.rs) (by decide) P hp.sh
  rw [← zr] at F4
  rw [← zs] at F6
  have F7 := things_yes d m t g P
  have F8 := plans_yes d m t g lt P
  refine go ?_
  simp
end Go.Proofs.YtckkipangiapbaaGreat
