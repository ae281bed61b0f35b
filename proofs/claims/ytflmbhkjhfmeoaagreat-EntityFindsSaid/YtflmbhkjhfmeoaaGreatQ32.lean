/-
  Walks and laws joined: WdReset EnNew.
-/
import Derived.Test.YtflmbhkjhfmeoaaGreatQ04
import Derived.Test.YtflmbhkjhfmeoaaGreatQ09
import Derived.Test.YtflmbhkjhfmeoaaGreatQ10
import Derived.Test.YtflmbhkjhfmeoaaGreatQ39
set_option linter.unusedVariables false
set_option linter.unusedSimpArgs false
namespace Go.Proofs.YtflmbhkjhfmeoaaGreat
open Go.SL
set_option maxHeartbeats 8000000
set_option maxRecDepth 20000
theorem fold_stp {α β : Type} {f : β → α → β} {b : β} {l : List α} {k : Nat} {x : α} (h : l[k]? = some x) : (l.take (k + 1)).foldl f b = f ((l.take k).foldl f b) x := by
  rw [List.take_add_one, h, List.foldl_append]; rfl
theorem reset_len (w : Wld) (m : Mpr) : (resetM w m).mobs.length ≤ w.mobs.length + 1 ∧ (resetM w m).next ≤ w.next + 1 ∧ w.next ≤ (resetM w m).next := by
  unfold resetM
  split
  · exact ⟨by omega, by omega, by omega⟩
  · exact ⟨by simp, by simp, by simp only; omega⟩
theorem resets_len : ∀ (l : List Mpr) (w : Wld), (l.foldl resetM w).mobs.length ≤ w.mobs.length + l.length ∧ (l.foldl resetM w).next ≤ w.next + l.length ∧ w.next ≤ (l.foldl resetM w).next
  | [], w => ⟨by simp, by simp, by simp⟩
  | a :: l, w => by
    have h1 := resets_len l (resetM w a)
    have h2 := reset_len w a
    simp only [List.foldl_cons, List.length_cons]
    omega
theorem cnt_any {α : Type} (p : α → Bool) (l : List α) : ((l.filter p).length = 0) ↔ l.any p = false := by
  induction l with
  | nil => simp
  | cons a l ih => cases h : p a <;> simp [h, ih]
section
variable (t d e : Nat) (m : Lay) (w : Wld) (mt : Tay) (tab : Tab) (S : List Sy) (u : Int)
theorem Reset_spec (bw : Bw w) (hml : w.mobs.length ≤ 90000) (htl : tab.mobs.length ≤ 1000) (hnx : 0 ≤ w.next ∧ w.next ≤ 4611686018427387904) (R : HProp) [hr : RT R e mt tab] :
    Trip Tryz.prog 162 [.pointer (some ⟨t, 0, none⟩)] [ts t d e S u, wl d m w, R] (fun v Ps => ∃ m', v = .tuple #[] ∧ Ps = [ts t d e S u, wl d m' (resetA tab w), R]) := by
  refine Trip.of (m := 97) Tryz.func162 rfl rfl rfl ?_
  intro o Rs
  simp only [List.cons_append, List.nil_append, enumFrom]
  haveI : Plan 11 [61, 65, 68, 72, 75, 77, 79, 81] [0, 1, 2, 3, 4, 5, 6, 7, 8, 9, 10, 11, 12, 13, 14, 15, 16, 17, 18, 19, 20, 21, 22, 23, 24, 25, 26, 27, 28, 29] := ⟨⟩
  refine go ?_
  refine ⟨?_, by simp⟩ <;> intros
  refine loop (σ := Nat × Lay) (fun s => s.1 ≤ tab.mobs.length) (fun s => [(0, .pointer (some ⟨t, 0, none⟩)), (2, .int .i64 (s.1 : Int))]) (fun s => ts t d e S u :: wl d s.2 ((tab.mobs.take s.1).foldl resetM w) :: R :: Rs) (fun s => tab.mobs.length - s.1) (0, m) (Nat.zero_le _) ?_
  rintro ⟨k, m1⟩ hk
  simp only at hk ⊢
  have hls := resets_len (tab.mobs.take k) w
  rw [List.length_take] at hls
  by_cases hk2 : k < tab.mobs.length
  · obtain ⟨q, hq⟩ : ∃ q, tab.mobs[k]? = some q := ⟨_, List.getElem?_eq_getElem hk2⟩
    have hst := fold_stp (f := resetM) (b := w) hq
    generalize (tab.mobs.take k).foldl resetM w = w1 at *
    replace hst := Bx.mk hst
    refine go ?_
    refine ⟨?_, by simp⟩ <;> intros
    rename_i b
    refine loop (σ := Nat) (fun j => j ≤ w1.mobs.length) (fun j => [(0, .pointer (some ⟨t, 0, none⟩)), (2, .int .i64 (k : Int)), (3, .pointer (some ⟨b, 0, none⟩)), (4, .int .i64 ((((w1.mobs.take j).filter fun x => x.proto == q.id).length : Nat) : Int)), (5, .int .i64 (j : Int))]) (fun j => blk b 92 (mprC q) :: ts t d e S u :: wl d m1 w1 :: R :: Rs) (fun j => w1.mobs.length - j) 0 (Nat.zero_le _) fun j hj => ?_
    by_cases hj2 : j < w1.mobs.length
    · obtain ⟨y, hy⟩ : ∃ y, w1.mobs[j]? = some y := ⟨_, List.getElem?_eq_getElem hj2⟩
      have hcl : ((w1.mobs.take j).filter fun x => x.proto == q.id).length ≤ w1.mobs.length := Nat.le_trans (List.length_filter_le _ _) (by rw [List.length_take]; omega)
      have hc1 : ((w1.mobs.take (j + 1)).filter fun x => x.proto == q.id).length = ((w1.mobs.take j).filter fun x => x.proto == q.id).length + if y.proto = q.id then 1 else 0 := by
        rw [List.take_add_one, hy]
        simp only [Option.toList_some, List.filter_append, List.length_append]
        congr 1
        by_cases h : y.proto = q.id <;> simp [h]
      generalize ((w1.mobs.take j).filter fun x => x.proto == q.id).length = cn at *
      by_cases hyq : y.proto = q.id
      · rw [if_pos hyq] at hc1
        replace hc1 := Bx.mk hc1
        refine go ?_
        (repeat' (first | exact trivial | apply And.intro | intro _))
        all_goals first
          | (exfalso; first | contradiction | omega)
          | exact rnd (j + 1) hj2 (by omega) (hx := by rw [hc1.get]; (repeat (first | exact trivial | refine And.intro rfl ?_ | fail)))
      · rw [if_neg hyq] at hc1
        replace hc1 := Bx.mk hc1
        refine go ?_
        (repeat' (first | exact trivial | apply And.intro | intro _))
        all_goals first
          | (exfalso; first | contradiction | omega)
          | exact rnd (j + 1) hj2 (by omega) (hx := by rw [hc1.get]; (repeat (first | exact trivial | refine And.intro rfl ?_ | fail)))
    rw [List.take_of_length_le (by omega)]
    have hca := cnt_any (fun x : Mob => x.proto == q.id) w1.mobs
    cases ha : w1.mobs.any (fun x => x.proto == q.id) with
    | true =>
      have hrm : resetM w1 q = w1 := by unfold resetM; rw [ha]; rfl
      have hne : ¬ (w1.mobs.filter fun x => x.proto == q.id).length = 0 := fun h => by rw [hca.1 h] at ha; cases ha
      generalize (w1.mobs.filter fun x => x.proto == q.id).length = cn at *
      replace hrm := Bx.mk hrm
      clear ha hca
      refine go ?_
      (repeat' (first | exact trivial | apply And.intro | intro _))
      all_goals first
        | (exfalso; omega)
        | exact rnd (k + 1, m1) hk2 (by simp only; omega) (hh := by simp only [hst.get, hrm.get]; (exact ent_))
    | false =>
      have hrm : resetM w1 q = { w1 with mobs := w1.mobs ++ [⟨w1.next, q.id, q.home, q.hp⟩], next := w1.next + 1 } := by unfold resetM; rw [ha]; rfl
      rw [hca.2 ha]
      replace hrm := Bx.mk hrm
      clear ha hca
      refine copenw (d := d) (m := m1) (w := w1) fun lm1 => ?_
      simp only [List.cons_append, List.nil_append]
      refine go ?_
      (repeat' (first | exact trivial | apply And.intro | intro _))
      all_goals first
        | (exfalso; omega)
        | (rename_i A' c'
           refine efoldw d { m1 with moA := A', moC := c' } { w1 with mobs := w1.mobs ++ [⟨w1.next, q.id, q.home, q.hp⟩], next := w1.next + 1 } lm1 ?_
           exact rnd (k + 1, { m1 with moA := A', moC := c' }) hk2 (by simp only; omega) (hh := by simp only [hst.get, hrm.get]; (exact ent_)))
  rw [List.take_of_length_le (by omega)]
  refine go ?_
  refine ⟨?_, by simp⟩ <;> intros
  exact ret0 ⟨_, rfl, rfl⟩
end
end Go.Proofs.YtflmbhkjhfmeoaaGreat
namespace Go.Proofs.YtflmbhkjhfmeoaaGreat
open Go.SL
set_option maxHeartbeats 8000000
set_option maxRecDepth 20000
theorem NewP_spec (e : Nat) (mt : Tay) (tab : Tab) (g : Good tab) (lt : TLaid mt tab) (hl : ∀ s ∈ tab.shops, 0 ≤ s.till ∧ s.till ≤ 1099511627776) (R : HProp) [hr : RT R e mt tab] : Trip Tryz.prog 80 [.pointer (some ⟨e, 0, none⟩)] [R] (fun v Ps => ∃ d m, v = .pointer (some ⟨d, 0, none⟩) ∧ Ps = [R, wl d m (newW tab)]) := by
  refine Trip.of (m := 84) Tryz.func80 rfl rfl rfl ?_
  intro o Rs
  simp only [List.cons_append, List.nil_append, enumFrom]
  haveI : Plan 7 [26, 30, 32, 34, 36] [0, 1, 2, 3, 4, 5, 6, 7, 8, 9, 10, 11, 12, 13, 14, 15, 16, 17, 18, 19, 20] := ⟨⟩
  haveI : Plan 13 [63, 65, 67] [0, 1, 2, 3, 4, 5, 6, 7, 8, 9, 10, 11, 12, 13, 14] := ⟨⟩
  haveI : Plan 14 [76, 78, 79] [0, 1, 2, 3, 4, 5, 6, 7, 8, 9] := ⟨⟩
  have F1 := Check_yes e mt tab g lt R
  have b1 : tab.mobs.length ≤ 60 := by have := g.rm.len; rwa [List.length_map] at this
  have b2 : tab.shops.length ≤ 60 := by have := g.rs.len; rwa [List.length_map] at this
  have zs : tab.shops.length = (tab.shops.zip mt.it).length := by rw [List.length_zip, lt.2, Nat.min_self]
  refine go ?_
  refine ⟨?_, by simp⟩ <;> intros
  rename_i o0
  refine C.turn (fun st hst => nest_nil (E := E64) (e := 3) (nest_nil (E := Enc.str) (e := 9) hst)) ?_
  refine loop (σ := Nat × PA) (fun x => x.1 ≤ tab.mobs.length) (fun x => [(0, .pointer (some ⟨e, 0, none⟩)), (3, .pointer (some ⟨o0, 0, none⟩)), (16, .slice mt.moA tab.mobs.length mt.moC), (17, .int .i64 (tab.mobs.length : Int)), (18, .int .i64 (x.1 : Int))])
    (fun x => blk o0 68 [.int .i64 0, .int .i64 ((x.1 : Int) + 1), .int .i64 0, .slice none 0 0, .slice none 0 0, .slice x.2.1 (newM (tab.mobs.take x.1)).length x.2.2, .slice none 0 0, .slice none 0 0, .slice none 0 0] :: sl Em 113 x.2.1 x.2.2 (newM (tab.mobs.take x.1)) :: R :: nest E64 3 [] :: nest Enc.str 9 [] :: Rs) (fun x => tab.mobs.length - x.1) (0, none, 0) (Nat.zero_le _) ?_
  rintro ⟨k, A, c⟩ hk
  simp only at hk ⊢
  by_cases hk2 : k < tab.mobs.length
  · obtain ⟨x, hx⟩ : ∃ x, tab.mobs[k]? = some x := ⟨_, List.getElem?_eq_getElem hk2⟩
    have hst := newM_step hx
    have hln : (newM (tab.mobs.take k)).length ≤ 100000 := by rw [newM_len, List.length_take]; omega
    generalize newM (tab.mobs.take k) = Lk at *
    refine go ?_
    (repeat' (first | exact trivial | apply And.intro | intro _))
    all_goals (rename_i A' c'; exact rnd (k + 1, A', c') hk2 (by simp only; omega) (hh := by simp only; rw [hst, show (((k + 1 : Nat)) : Int) = (k : Int) + 1 from rfl]; (exact ent_)))
  rw [List.take_of_length_le (by omega)]
  have hk3 : k = tab.mobs.length := by omega
  subst hk3
  have hln : (newM tab.mobs).length = tab.mobs.length := newM_len _
  refine go ?_
  refine ⟨?_, by simp⟩ <;> intros
  refine loop (σ := Nat × PA) (fun x => x.1 ≤ tab.shops.length) (fun x => [(0, .pointer (some ⟨e, 0, none⟩)), (3, .pointer (some ⟨o0, 0, none⟩)), (53, .slice mt.shA tab.shops.length mt.shC), (54, .int .i64 (tab.shops.length : Int)), (55, .int .i64 (x.1 : Int))])
    (fun x => blk o0 68 [.int .i64 0, .int .i64 ((tab.mobs.length : Int) + 1), .int .i64 (newG (tab.shops.take x.1)), .slice none 0 0, .slice none 0 0, .slice A (newM tab.mobs).length c, .slice none 0 0, .slice none 0 0, .slice x.2.1 (newI (tab.shops.take x.1)).length x.2.2] :: sl Ei 131 x.2.1 x.2.2 (newI (tab.shops.take x.1)) :: sl Em 113 A c (newM tab.mobs) :: R :: nest E64 3 [] :: nest Enc.str 9 [] :: Rs) (fun x => tab.shops.length - x.1) (0, none, 0) (Nat.zero_le _) ?_
  rintro ⟨j, A2, c2⟩ hj
  simp only at hj ⊢
  by_cases hj2 : j < tab.shops.length
  · obtain ⟨x, hx⟩ : ∃ x, tab.shops[j]? = some x := ⟨_, List.getElem?_eq_getElem hj2⟩
    obtain ⟨⟨A1, c1⟩, hz1, _⟩ := zip_get hx lt.2
    have hst := newI_step hx
    have hsg := newG_step hx
    have hgl := newG_le hl j hj
    have htl := hl x (List.mem_of_getElem? hx)
    have hln2 : (newI (tab.shops.take j)).length ≤ 100000 := by rw [newI_len, List.length_take]; omega
    generalize newI (tab.shops.take j) = Lk at *
    generalize newG (tab.shops.take j) = G at *
    refine go ?_
    (repeat' (first | exact trivial | apply And.intro | intro _))
    all_goals (rename_i A' c'; exact rnd (j + 1, A', c') hj2 (by simp only; omega) (hh := by simp only; rw [hst, hsg]; (exact ent_)))
  rw [List.take_of_length_le (by omega)]
  refine go ?_
  refine ⟨?_, by simp⟩ <;> intros
  refine efoldw o0 ⟨none, 0, none, 0, A, c, none, 0, none, 0, A2, c2, [], []⟩ (newW tab) ⟨rfl, rfl⟩ ?_
  exact ret1 ⟨o0, _, rfl, rfl⟩
end Go.Proofs.YtflmbhkjhfmeoaaGreat
