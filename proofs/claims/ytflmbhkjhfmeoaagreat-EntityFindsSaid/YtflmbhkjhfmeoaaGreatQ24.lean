/-
  Walks and laws joined: WdSpare WdQuests EnFind.
-/
import Derived.Test.YtflmbhkjhfmeoaaGreatQ17
import Derived.Test.YtflmbhkjhfmeoaaGreatQ18
import Derived.Test.YtflmbhkjhfmeoaaGreatQ10
import Derived.Test.YtflmbhkjhfmeoaaGreatQ09
set_option linter.unusedVariables false
set_option linter.unusedSimpArgs false
namespace Go.Proofs.YtflmbhkjhfmeoaaGreat
open Go.SL
set_option maxHeartbeats 8000000
set_option maxRecDepth 20000
theorem fnd_hit {α : Type} {f : α → Bool} {l : List α} {k : Nat} {x : α} (h : (l.take k).find? f = none) (hx : l[k]? = some x) (hp : f x = true) : l.find? f = some x := by
  have hk := List.getElem?_eq_some_iff.1 hx
  have e : l = l.take k ++ x :: l.drop (k + 1) := by rw [← hk.2, ← List.drop_eq_getElem_cons hk.1, List.take_append_drop]
  rw [e, List.find?_append, h]
  simp [List.find?_cons, hp]
theorem fnd_miss {α : Type} {f : α → Bool} {l : List α} {k : Nat} {x : α} (h : (l.take k).find? f = none) (hx : l[k]? = some x) (hp : f x = false) : (l.take (k + 1)).find? f = none := by
  rw [List.take_add_one, hx, List.find?_append, h]; simp [hp]
theorem fnd_end {α : Type} {f : α → Bool} {l : List α} {k : Nat} (h : (l.take k).find? f = none) (hk : ¬ k < l.length) : l.find? f = none := by rwa [List.take_of_length_le (by omega)] at h
theorem has_step {x : Int} {l : List Int} {k : Nat} {y : Int} (hy : l[k]? = some y) : (l.take (k + 1)).contains x = ((l.take k).contains x || y == x) := by
  rw [List.take_add_one, hy, List.contains_eq_any_beq, List.any_append, ← List.contains_eq_any_beq]
  simp [Bool.beq_comm]
theorem of_lt {w : Wld} {name : Tx} {place : Int} {i : Nat} (h : i ∈ ofL w name place) : ∃ x, w.things[i]? = some x := by
  obtain ⟨x, hx, _⟩ := pos_mem h
  exact ⟨x, hx⟩
theorem of_len (w : Wld) (name : Tx) (place : Int) : (ofL w name place).length ≤ w.things.length := pos_len _ _
section
variable (t d e : Nat) (m : Lay) (w : Wld) (S : List Sy) (u : Int)
theorem spare_spec (hl : w.things.length ≤ 100000) (name : Tx) (proto : Int) (used : List Int) (hul : used.length ≤ 1000) (A2 : Option Addr) (c2 : Nat) (U : HProp) (hU : Reads U E64 A2 used) :
    Trip Tryz.prog 268 [.pointer (some ⟨t, 0, none⟩), str name, .int .i64 proto, .slice A2 used.length c2] [ts t d e S u, wl d m w, U] (fun v Ps => v = .int .i64 (spareN w name proto used) ∧ Ps = [ts t d e S u, wl d m w, U]) := by
  refine Trip.of (m := 62) Tryz.func268 rfl rfl rfl ?_
  intro o Rs
  simp only [List.cons_append, List.nil_append, enumFrom]
  haveI : Plan 5 [29, 32, 36, 38] [0, 1, 2, 3, 4, 5, 6, 7, 8, 9, 10, 11, 12, 13, 14] := ⟨⟩
  have F1 := Of_spec d m w name 2 (by omega) (wl d m w)
  have hol := of_len w name 2
  unfold spareN
  have hof : ∀ i ∈ ofL w name 2, ∃ x, w.things[i]? = some x := fun i hi => of_lt hi
  refine go ?_
  refine ⟨?_, by simp⟩ <;> intros
  rename_i A c
  clear F1
  generalize ofL w name 2 = L at *
  have hil := ints_len L
  refine loop (σ := Nat) (fun k => k ≤ L.length ∧ (L.take k).find? (fun i => (w.things.getD i default).proto == proto && !(used.contains (w.things.getD i default).id)) = none) (fun k => [(0, .pointer (some ⟨t, 0, none⟩)), (2, .int .i64 proto), (3, .slice A2 used.length c2), (9, .slice A (ints L).length c), (10, .int .i64 (k : Int))])
    (fun k => ts t d e S u :: wl d m w :: U :: sl E64 3 A c (ints L) :: Rs) (fun k => L.length - k) 0 ⟨Nat.zero_le _, by simp⟩ fun k ⟨h1, h2⟩ => ?_
  by_cases hk : k < L.length
  · obtain ⟨i, hi⟩ : ∃ i, L[k]? = some i := ⟨_, List.getElem?_eq_getElem hk⟩
    have hi2 := ints_get hi
    obtain ⟨x, hx⟩ := hof i (List.mem_of_getElem? hi)
    clear hof
    replace h2 := Bx.mk h2
    replace hi := Bx.mk hi
    have hxl := (List.getElem?_eq_some_iff.1 hx).1
    refine go ?_
    (repeat' (first | exact trivial | apply And.intro | intro _))
    all_goals first
      | (exfalso; omega)
      | skip
    all_goals
      rename_i b
      refine loop (σ := Nat) (fun j => j ≤ used.length) (fun j => [(0, .pointer (some ⟨t, 0, none⟩)), (2, .int .i64 proto), (3, .slice A2 used.length c2), (9, .slice A (ints L).length c), (10, .int .i64 (k : Int)), (11, .pointer (some ⟨b, 0, none⟩)), (12, .bool (x.proto == proto && !((used.take j).contains x.id))), (13, .int .i64 (j : Int))])
        (fun j => blk b 55 (thgC x) :: ts t d e S u :: wl d m w :: U :: sl E64 3 A c (ints L) :: Rs) (fun j => used.length - j) 0 (Nat.zero_le _) ?_ (hx := by simp only [List.take_zero, List.contains_nil, Bool.not_false, Bool.and_true]; (repeat (first | exact trivial | refine And.intro rfl ?_ | fail)))
      intro j hj
      by_cases hj2 : j < used.length
      · obtain ⟨y, hy⟩ : ∃ y, used[j]? = some y := ⟨_, List.getElem?_eq_getElem hj2⟩
        haveI : Rd U E64 A2 used := ⟨hU⟩
        have hst2 : (x.proto == proto && !((used.take (j + 1)).contains x.id)) = ((x.proto == proto && !((used.take j).contains x.id)) && !(y == x.id)) := by rw [has_step hy]; simp [Bool.and_assoc]
        generalize (x.proto == proto && !((used.take j).contains x.id)) = fr at *
        cases fr with
        | false =>
          refine go ?_
          (repeat' (first | exact trivial | apply And.intro | intro _))
          all_goals first
            | (exfalso; omega)
            | exact rnd (j + 1) hj2 (by omega) (hx := by simp only [hst2, Bool.false_and]; (repeat (first | exact trivial | refine And.intro rfl ?_ | fail)))
        | true =>
          by_cases hyx : y = x.id
          · have hb : (y == x.id) = true := by simpa using hyx
            refine go ?_
            (repeat' (first | exact trivial | apply And.intro | intro _))
            all_goals first
              | (exfalso; omega)
              | exact rnd (j + 1) hj2 (by omega) (hx := by simp only [hst2, bne, hb, Bool.not_true, Bool.and_false]; (repeat (first | exact trivial | refine And.intro rfl ?_ | fail)))
          · have hb : (y == x.id) = false := by simpa using hyx
            refine go ?_
            (repeat' (first | exact trivial | apply And.intro | intro _))
            all_goals first
              | (exfalso; omega)
              | exact rnd (j + 1) hj2 (by omega) (hx := by simp only [hst2, bne, hb, Bool.not_false, Bool.and_true]; (repeat (first | exact trivial | refine And.intro rfl ?_ | fail)))
      · rw [List.take_of_length_le (by omega)]
        have hfq : (fun i => (w.things.getD i default).proto == proto && !(used.contains (w.things.getD i default).id)) i = (x.proto == proto && !(used.contains x.id)) := by simp only [getD_of hx]
        cases hg : (x.proto == proto && !(used.contains x.id)) with
        | true =>
          have hfi := fnd_hit h2.get hi.get (hfq.trans hg)
          rw [hfi]
          clear hfi hfq hg
          simp only [getD_of hx]
          refine go ?_
          simp
        | false =>
          have hfi := Bx.mk (fnd_miss h2.get hi.get (hfq.trans hg))
          clear hfq hg
          refine go ?_
          refine ⟨?_, by simp⟩ <;> intros
          exact rnd (k + 1) ⟨hk, hfi.get⟩ (by omega)
  · rw [fnd_end h2 hk]
    refine go ?_
    simp
end
end Go.Proofs.YtflmbhkjhfmeoaaGreat
namespace Go.Proofs.YtflmbhkjhfmeoaaGreat
open Go.SL
set_option maxHeartbeats 8000000
set_option maxRecDepth 20000
def questT (t : Tab) (q : Qst) : Tx := nT q.id ++ [58, 32, 98, 114, 105, 110, 103, 32] ++ nT q.count ++ [32] ++ kindN t q.item ++ [32, 102, 111, 114, 32] ++ nT q.gold ++ [32, 103, 111, 108, 100] ++ if q.reward = 0 then [] else [32, 97, 110, 100, 32, 97, 32] ++ kindN t q.reward
def qsF (dn : List Int) (l : List Qst) : List Qst := l.filter fun q => !(dn.contains q.id)
def qsM (t : Tab) (dn : List Int) (name : Tx) (l : List Qst) : List Sy := (qsF dn l).map fun q => (name, questT t q)
theorem qsF_step {dn : List Int} {l : List Qst} {k : Nat} {x : Qst} (h : l[k]? = some x) : qsF dn (l.take (k + 1)) = qsF dn (l.take k) ++ if dn.contains x.id then [] else [x] := by
  unfold qsF
  rw [List.take_add_one, h]
  simp only [Option.toList_some, List.filter_append]
  congr 1
  cases hd : dn.contains x.id <;> (rw [List.filter_cons, hd]; rfl)
theorem qsF_len (dn : List Int) (l : List Qst) : (qsF dn l).length ≤ l.length := List.length_filter_le _ _
structure Qok (t : Tab) : Prop where
  ok : ∀ q ∈ t.quests, (-9223372036854775808 ≤ q.id ∧ q.id ≤ 9223372036854775807) ∧ (-9223372036854775808 ≤ q.count ∧ q.count ≤ 9223372036854775807) ∧ -9223372036854775808 ≤ q.gold ∧ q.gold ≤ 9223372036854775807
section
variable (t d e : Nat) (m : Lay) (w : Wld) (mt : Tay) (tab : Tab) (S : List Sy) (u : Int)
theorem Quests_spec (bw : Bw w) (bt : Bt tab) (qo : Qok tab) (lm : Laid m w) (R : HProp) [hr : RT R e mt tab] (name : Tx) (hdn : ∀ c ∈ w.chars, c.done.length ≤ 100000) (hS : S.length ≤ 200000) :
    Trip Tryz.prog 231 [.pointer (some ⟨t, 0, none⟩), str name] [ts t d e S u, wl d m w, R] (fun v Ps => v = .tuple #[] ∧ Ps = [ts t d e (S ++ questsS tab w name) u, wl d m w, R]) := by
  refine Trip.of (m := 88) Tryz.func231 rfl rfl rfl ?_
  intro o Rs
  simp only [List.cons_append, List.nil_append, enumFrom]
  haveI : Plan 7 [39, 42, 45, 47] [0, 1, 2, 3, 4, 5, 6, 7, 8, 9, 10, 11, 12] := ⟨⟩
  haveI : Plan 9 [50, 54, 60, 65] [0, 1, 4, 5, 9, 10, 11, 15, 16, 2, 3, 6, 7, 8, 12, 13, 14, 17, 18, 19, 20] := ⟨⟩
  unfold questsS
  have zc : w.chars.length = (w.chars.zip m.dn).length := by rw [List.length_zip, lm.1, Nat.min_self]
  have F1 := on_spec t d e m w S u bw lm name
  have b1 := bt.nq
  rcases hc : onI w name with _ | c
  · rw [hc] at F1
    simp only [iv] at F1 ⊢
    refine goW ?_
    refine ⟨?_, by simp⟩ <;> intros
    exact ret0 ⟨rfl, by rw [List.append_nil]⟩
  obtain ⟨x, hx, hon, hnm⟩ := on_get hc
  have hcl := (List.getElem?_eq_some_iff.1 hx).1
  obtain ⟨⟨A0, c0⟩, hz, _⟩ := zip_get hx lm.1
  rw [hc] at F1
  simp only [iv, getD_of hx] at F1 ⊢
  have hRd : Reads (wl d m w) E64 A0 x.done := (inferInstance : RW (wl d m w) d m w).dn _ (List.mem_of_getElem? hz)
  have hdl := hdn x (List.mem_of_getElem? hx)
  clear hc hon hnm hdn
  rw [show (if (tab.quests.filter fun q => !(x.done.contains q.id)) = [] then [(name, [84, 104, 101, 114, 101, 32, 105, 115, 32, 110, 111, 116, 104, 105, 110, 103, 32, 116, 111, 32, 100, 111, 46])] else (tab.quests.filter fun q => !(x.done.contains q.id)).map fun q => (name, nT q.id ++ [58, 32, 98, 114, 105, 110, 103, 32] ++ nT q.count ++ [32] ++ kindN tab q.item ++ [32, 102, 111, 114, 32] ++ nT q.gold ++ [32, 103, 111, 108, 100] ++ if q.reward = 0 then [] else [32, 97, 110, 100, 32, 97, 32] ++ kindN tab q.reward)) = (if qsF x.done tab.quests = [] then [(name, [84, 104, 101, 114, 101, 32, 105, 115, 32, 110, 111, 116, 104, 105, 110, 103, 32, 116, 111, 32, 100, 111, 46])] else qsM tab x.done name tab.quests) from rfl]
  refine goW ?_
  refine ⟨?_, by simp⟩ <;> intros
  clear F1
  refine loop (σ := Nat) (fun k => k ≤ tab.quests.length) (fun k => [(0, .pointer (some ⟨t, 0, none⟩)), (1, str name), (4, .int .i64 (c : Int)), (5, .bool (!(qsF x.done (tab.quests.take k)).isEmpty)), (6, .int .i64 (k : Int))]) (fun k => ts t d e (S ++ qsM tab x.done name (tab.quests.take k)) u :: wl d m w :: R :: Rs) (fun k => tab.quests.length - k) 0 (Nat.zero_le _) (hh := by rw [List.take_zero, show qsM tab x.done name [] = [] from rfl, List.append_nil]; (exact ent_)) ?_
  intro k hk
  have hql := qsF_len x.done (tab.quests.take k)
  rw [List.length_take] at hql
  have hml : (qsM tab x.done name (tab.quests.take k)).length = (qsF x.done (tab.quests.take k)).length := List.length_map _
  by_cases hk2 : k < tab.quests.length
  · obtain ⟨q, hq⟩ : ∃ q, tab.quests[k]? = some q := ⟨_, List.getElem?_eq_getElem hk2⟩
    obtain ⟨⟨i1, i2⟩, ⟨i3, i4⟩, i5, i6⟩ := qo.ok q (List.mem_of_getElem? hq)
    have hsf := qsF_step (dn := x.done) hq
    have hsm : qsM tab x.done name (tab.quests.take (k + 1)) = qsM tab x.done name (tab.quests.take k) ++ if x.done.contains q.id then [] else [(name, questT tab q)] := by
      unfold qsM
      rw [hsf, List.map_append]
      congr 1
      split <;> rfl
    have F1 := did_spec q.id x A0 c0 hdl (wl d m w) hRd
    generalize qsM tab x.done name (tab.quests.take k) = Lk at *
    generalize hb0 : (!(qsF x.done (tab.quests.take k)).isEmpty) = b0 at *
    by_cases hdd : x.done.contains q.id = true
    · rw [hdd] at F1
      rw [if_pos hdd, List.append_nil] at hsf hsm
      replace hsf := Bx.mk hsf
      replace hsm := Bx.mk hsm
      replace hb0 := Bx.mk hb0
      clear hdd
      refine goW ?_
      (repeat' (first | exact trivial | apply And.intro | intro _))
      all_goals first
        | (exfalso; omega)
        | exact rnd (k + 1) hk2 (by omega) (hx := by rw [hsf.get, hb0.get]; (repeat (first | exact trivial | refine And.intro rfl ?_ | fail))) (hh := by rw [hsm.get]; (exact ent_))
    · have hdf : x.done.contains q.id = false := by simpa using hdd
      rw [hdf] at F1
      rw [if_neg hdd] at hsf hsm
      have hb1 : (!(qsF x.done (tab.quests.take (k + 1))).isEmpty) = true := by rw [hsf]; simp
      replace hb1 := Bx.mk hb1
      clear hdd hdf hsf hb0
      have n1 := nT_len q.id i1 i2
      have n2 := nT_len q.count i3 i4
      have n3 := nT_len q.gold i5 i6
      have k1 := kind_len bt q.item
      have k2 := kind_len bt q.reward
      have F2 := n_spec q.id i1 i2
      have F3 := n_spec q.count i3 i4
      have F4 := n_spec q.gold i5 i6
      have F5 := kind_spec t d e mt tab (S ++ Lk) u bt R q.item
      unfold questT at hsm
      by_cases hr0 : q.reward = 0
      · rw [if_pos hr0, List.append_nil] at hsm
        have F7 := say_spec t d e (S ++ Lk) u name (nT q.id ++ [58, 32, 98, 114, 105, 110, 103, 32] ++ nT q.count ++ [32] ++ kindN tab q.item ++ [32, 102, 111, 114, 32] ++ nT q.gold ++ [32, 103, 111, 108, 100]) (by rw [List.length_append]; omega)
        replace hsm := Bx.mk hsm
        refine goW ?_
        (repeat' (first | exact trivial | apply And.intro | intro _))
        all_goals first
          | (exfalso; omega)
          | exact rnd (k + 1) hk2 (by omega) (hx := by rw [hb1.get]; (repeat (first | exact trivial | refine And.intro rfl ?_ | fail))) (hh := by rw [hsm.get, ← List.append_assoc S Lk]; (exact ent_))
      · rw [if_neg hr0] at hsm
        have F6 := kind_spec t d e mt tab (S ++ Lk) u bt R q.reward
        have F7 := say_spec t d e (S ++ Lk) u name (nT q.id ++ [58, 32, 98, 114, 105, 110, 103, 32] ++ nT q.count ++ [32] ++ kindN tab q.item ++ [32, 102, 111, 114, 32] ++ nT q.gold ++ [32, 103, 111, 108, 100] ++ ([32, 97, 110, 100, 32, 97, 32] ++ kindN tab q.reward)) (by rw [List.length_append]; omega)
        replace hsm := Bx.mk hsm
        refine goW ?_
        (repeat' (first | exact trivial | apply And.intro | intro _))
        all_goals first
          | (exfalso; omega)
          | exact rnd (k + 1) hk2 (by omega) (hx := by rw [hb1.get]; (repeat (first | exact trivial | refine And.intro rfl ?_ | fail))) (hh := by rw [hsm.get, ← List.append_assoc S Lk]; (exact ent_))
  rw [List.take_of_length_le (by omega)] at hql hml ⊢
  have F1 := say_spec t d e S u name [84, 104, 101, 114, 101, 32, 105, 115, 32, 110, 111, 116, 104, 105, 110, 103, 32, 116, 111, 32, 100, 111, 46] (by omega)
  by_cases he : qsF x.done tab.quests = []
  · rw [if_pos he]
    have hm0 : qsM tab x.done name tab.quests = [] := by unfold qsM; rw [he]; rfl
    rw [he, hm0, List.append_nil]
    clear he hm0
    refine goW ?_
    refine ⟨?_, by simp⟩ <;> intros
    exact ret0 ⟨rfl, rfl⟩
  · rw [if_neg he]
    have hb : (!(qsF x.done tab.quests).isEmpty) = true := by
      cases hq : qsF x.done tab.quests with
      | nil => exact absurd hq he
      | cons a l => rfl
    rw [hb]
    clear hb he
    refine goW ?_
    refine ⟨?_, by simp⟩ <;> intros
    exact ret0 ⟨rfl, rfl⟩
end
end Go.Proofs.YtflmbhkjhfmeoaaGreat
namespace Go.Proofs.YtflmbhkjhfmeoaaGreat
open Go.SL
set_option maxHeartbeats 8000000
set_option maxRecDepth 20000
def rmD (t : Tab) (id : Int) : Rm := match roomI t id with
  | none => default
  | some k => t.rooms.getD k default
def proD (t : Tab) (id : Int) : Pro := match protoI t id with
  | none => default
  | some k => t.protos.getD k default
def mprD (t : Tab) (id : Int) : Mpr := match mprI t id with
  | none => default
  | some k => t.mobs.getD k default
theorem RoomP_spec (d : Nat) (m : Tay) (t : Tab) (id : Int) (hl : t.rooms.length ≤ 1000000) (P : HProp) [hp : RT P d m t] : Trip Tryz.prog 122 [.pointer (some ⟨d, 0, none⟩), .int .i64 id] [P] (fun v Ps => v = .tuple #[.agg (rmC (rmD t id)).toArray, .bool (roomI t id).isSome] ∧ Ps = [P]) := by
  refine Trip.of (m := 26) Tryz.func122 rfl rfl rfl ?_
  intro o Rs
  simp only [List.cons_append, List.nil_append, enumFrom]
  unfold rmD
  refine go ?_
  refine ⟨?_, by simp⟩ <;> intros
  rename_i o0
  refine loop (fun k => k ≤ t.rooms.length ∧ (t.rooms.take k).findIdx? (fun x => x.id == id) = none) (fun k => [(0, .pointer (some ⟨d, 0, none⟩)), (1, .int .i64 id), (4, .pointer (some ⟨o0, 0, none⟩)), (5, .bool false), (13, .slice m.roA t.rooms.length m.roC), (14, .int .i64 (t.rooms.length : Int)), (15, .int .i64 (k : Int))]) (fun k => blk o0 86 (rmC default) :: P :: Rs) (fun k => t.rooms.length - k) 0 ⟨Nat.zero_le _, find_zero⟩ fun k ⟨h1, h2⟩ => ?_
  by_cases hk : k < t.rooms.length
  · obtain ⟨x, hx⟩ : ∃ x, t.rooms[k]? = some x := ⟨_, List.getElem?_eq_getElem hk⟩
    by_cases h3 : x.id = id
    · have hfi : roomI t id = some k := find_hit h2 hx (by simpa using h3)
      rw [hfi]
      simp only [getD_of hx, Option.isSome_some]
      refine go ?_
      refine ⟨?_, by simp⟩ <;> intros
      rfl
    · refine go ?_
      refine ⟨?_, by simp⟩ <;> intros
      exact rnd (k + 1) ⟨hk, find_miss h2 hx (by simpa using h3)⟩ (by omega)
  · have hfi : roomI t id = none := find_end h2 hk
    rw [hfi]
    simp only [Option.isSome_none]
    refine go ?_
    refine ⟨?_, by simp⟩ <;> intros
    rfl
theorem ProtoP_spec (d : Nat) (m : Tay) (t : Tab) (id : Int) (hl : t.protos.length ≤ 1000000) (P : HProp) [hp : RT P d m t] : Trip Tryz.prog 59 [.pointer (some ⟨d, 0, none⟩), .int .i64 id] [P] (fun v Ps => v = .tuple #[.agg (proC (proD t id)).toArray, .bool (protoI t id).isSome] ∧ Ps = [P]) := by
  refine Trip.of (m := 26) Tryz.func59 rfl rfl rfl ?_
  intro o Rs
  simp only [List.cons_append, List.nil_append, enumFrom]
  unfold proD
  refine go ?_
  refine ⟨?_, by simp⟩ <;> intros
  rename_i o0
  refine loop (fun k => k ≤ t.protos.length ∧ (t.protos.take k).findIdx? (fun x => x.id == id) = none) (fun k => [(0, .pointer (some ⟨d, 0, none⟩)), (1, .int .i64 id), (4, .pointer (some ⟨o0, 0, none⟩)), (5, .bool false), (13, .slice m.prA t.protos.length m.prC), (14, .int .i64 (t.protos.length : Int)), (15, .int .i64 (k : Int))]) (fun k => blk o0 89 (proC default) :: P :: Rs) (fun k => t.protos.length - k) 0 ⟨Nat.zero_le _, find_zero⟩ fun k ⟨h1, h2⟩ => ?_
  by_cases hk : k < t.protos.length
  · obtain ⟨x, hx⟩ : ∃ x, t.protos[k]? = some x := ⟨_, List.getElem?_eq_getElem hk⟩
    by_cases h3 : x.id = id
    · have hfi : protoI t id = some k := find_hit h2 hx (by simpa using h3)
      rw [hfi]
      simp only [getD_of hx, Option.isSome_some]
      refine go ?_
      refine ⟨?_, by simp⟩ <;> intros
      rfl
    · refine go ?_
      refine ⟨?_, by simp⟩ <;> intros
      exact rnd (k + 1) ⟨hk, find_miss h2 hx (by simpa using h3)⟩ (by omega)
  · have hfi : protoI t id = none := find_end h2 hk
    rw [hfi]
    simp only [Option.isSome_none]
    refine go ?_
    refine ⟨?_, by simp⟩ <;> intros
    rfl
theorem MobP_spec (d : Nat) (m : Tay) (t : Tab) (id : Int) (hl : t.mobs.length ≤ 1000000) (P : HProp) [hp : RT P d m t] : Trip Tryz.prog 115 [.pointer (some ⟨d, 0, none⟩), .int .i64 id] [P] (fun v Ps => v = .tuple #[.agg (mprC (mprD t id)).toArray, .bool (mprI t id).isSome] ∧ Ps = [P]) := by
  refine Trip.of (m := 26) Tryz.func115 rfl rfl rfl ?_
  intro o Rs
  simp only [List.cons_append, List.nil_append, enumFrom]
  unfold mprD
  refine go ?_
  refine ⟨?_, by simp⟩ <;> intros
  rename_i o0
  refine loop (fun k => k ≤ t.mobs.length ∧ (t.mobs.take k).findIdx? (fun x => x.id == id) = none) (fun k => [(0, .pointer (some ⟨d, 0, none⟩)), (1, .int .i64 id), (4, .pointer (some ⟨o0, 0, none⟩)), (5, .bool false), (13, .slice m.moA t.mobs.length m.moC), (14, .int .i64 (t.mobs.length : Int)), (15, .int .i64 (k : Int))]) (fun k => blk o0 92 (mprC default) :: P :: Rs) (fun k => t.mobs.length - k) 0 ⟨Nat.zero_le _, find_zero⟩ fun k ⟨h1, h2⟩ => ?_
  by_cases hk : k < t.mobs.length
  · obtain ⟨x, hx⟩ : ∃ x, t.mobs[k]? = some x := ⟨_, List.getElem?_eq_getElem hk⟩
    by_cases h3 : x.id = id
    · have hfi : mprI t id = some k := find_hit h2 hx (by simpa using h3)
      rw [hfi]
      simp only [getD_of hx, Option.isSome_some]
      refine go ?_
      refine ⟨?_, by simp⟩ <;> intros
      rfl
    · refine go ?_
      refine ⟨?_, by simp⟩ <;> intros
      exact rnd (k + 1) ⟨hk, find_miss h2 hx (by simpa using h3)⟩ (by omega)
  · have hfi : mprI t id = none := find_end h2 hk
    rw [hfi]
    simp only [Option.isSome_none]
    refine go ?_
    refine ⟨?_, by simp⟩ <;> intros
    rfl
end Go.Proofs.YtflmbhkjhfmeoaaGreat
