/-
  Walks and laws joined: WdLots WdOffer.
-/
import Derived.Test.YtflmbhkjhfmeoaaGreatQ20
import Derived.Test.YtflmbhkjhfmeoaaGreatQ10
set_option linter.unusedVariables false
set_option linter.unusedSimpArgs false
namespace Go.Proofs.YtflmbhkjhfmeoaaGreat
open Go.SL
set_option maxHeartbeats 8000000
set_option maxRecDepth 20000
def lotM (t : Tab) (w : Wld) (name : Tx) (l : List Lot) : List Sy := l.map fun x => (name, lotT t w x)
theorem lotM_step {t : Tab} {w : Wld} {name : Tx} {l : List Lot} {k : Nat} {x : Lot} (h : l[k]? = some x) : lotM t w name (l.take (k + 1)) = lotM t w name (l.take k) ++ [(name, lotT t w x)] := map_step _ h
theorem lotM_len (t : Tab) (w : Wld) (name : Tx) (l : List Lot) : (lotM t w name l).length = l.length := by simp [lotM]
structure Lok (w : Wld) : Prop where
  th : ∀ l ∈ w.lots, ∃ k, thingI w l.thing = some k
  nb : ∀ l ∈ w.lots, l.bidder.length ≤ 1000
  id : ∀ l ∈ w.lots, -9223372036854775808 ≤ l.id ∧ l.id ≤ 9223372036854775807
  mi : ∀ l ∈ w.lots, -9223372036854775808 ≤ l.min ∧ l.min ≤ 9223372036854775807
  bi : ∀ l ∈ w.lots, -9223372036854775808 ≤ l.bid ∧ l.bid ≤ 9223372036854775807
section
variable (t d e : Nat) (m : Lay) (w : Wld) (mt : Tay) (tab : Tab) (S : List Sy) (u : Int)
theorem Lots_spec (bw : Bw w) (bt : Bt tab) (lm : Laid m w) (lo : Lok w) (R : HProp) [hr : RT R e mt tab] (name : Tx) (hS : S.length ≤ 200000) :
    Trip Tryz.prog 235 [.pointer (some ⟨t, 0, none⟩), str name] [ts t d e S u, wl d m w, R] (fun v Ps => v = .tuple #[] ∧ Ps = [ts t d e (S ++ lotsS tab w name) u, wl d m w, R]) := by
  refine Trip.of (m := 93) Tryz.func235 rfl rfl rfl ?_
  intro o Rs
  simp only [List.cons_append, List.nil_append, enumFrom]
  haveI : Plan 7 [46, 54, 57, 61, 63] [0, 1, 5, 6, 7, 8, 9, 10, 11, 12, 13, 14, 15, 16, 17, 18, 2, 3, 4, 19, 20, 21, 22, 23, 24, 25, 26] := ⟨⟩
  haveI : Plan 10 [81, 85] [0, 1, 2, 5, 6, 3, 4, 7, 8, 9, 10] := ⟨⟩
  unfold lotsS
  have F1 := on_spec t d e m w S u bw lm name
  have b1 := bw.nl
  have b5 := bw.nt
  rcases hc : onI w name with _ | c
  · rw [hc] at F1
    simp only [iv] at F1 ⊢
    refine goW ?_
    refine ⟨?_, by simp⟩ <;> intros
    exact ret0 ⟨rfl, by rw [List.append_nil]⟩
  rw [hc] at F1
  simp only [iv] at F1 ⊢
  by_cases h0 : w.lots = []
  · rw [if_pos h0]
    have hl0 : w.lots.length = 0 := by rw [h0]; rfl
    clear h0
    have F2 := say_spec t d e S u name [84, 104, 101, 114, 101, 32, 97, 114, 101, 32, 110, 111, 32, 108, 111, 116, 115, 46] (by omega)
    refine goW ?_
    refine ⟨?_, by simp⟩ <;> intros
    refine loop (σ := Unit) (fun _ => True) (fun _ => [(0, .pointer (some ⟨t, 0, none⟩)), (4, .int .i64 0)]) (fun _ => ts t d e (S ++ [(name, [84, 104, 101, 114, 101, 32, 97, 114, 101, 32, 110, 111, 32, 108, 111, 116, 115, 46])]) u :: wl d m w :: R :: Rs) (fun _ => 0) () trivial fun _ _ => ?_
    refine goW ?_
    refine ⟨?_, by simp⟩ <;> intros
    exact ret0 ⟨rfl, rfl⟩
  rw [if_neg h0]
  have hl0 : ¬ w.lots.length = 0 := fun h => h0 (List.length_eq_zero_iff.1 h)
  replace h0 := Bx.mk h0
  rw [show (w.lots.map fun l => (name, lotT tab w l)) = lotM tab w name w.lots from rfl]
  refine goW ?_
  refine ⟨?_, by simp⟩ <;> intros
  clear F1
  refine loop (σ := Nat) (fun k => k ≤ w.lots.length) (fun k => [(0, .pointer (some ⟨t, 0, none⟩)), (1, str name), (4, .int .i64 (k : Int))]) (fun k => ts t d e (S ++ lotM tab w name (w.lots.take k)) u :: wl d m w :: R :: Rs) (fun k => w.lots.length - k) 0 (Nat.zero_le _) (hh := by rw [List.take_zero, show lotM tab w name [] = [] from rfl, List.append_nil]; (exact ent_)) ?_
  intro k hk
  by_cases hk2 : k < w.lots.length
  · obtain ⟨x, hx⟩ : ∃ x, w.lots[k]? = some x := ⟨_, List.getElem?_eq_getElem hk2⟩
    have hxm := List.mem_of_getElem? hx
    obtain ⟨i, hi⟩ := lo.th x hxm
    obtain ⟨z, hz, _⟩ := find_get hi
    have hil := find_lt hi
    have hst := lotM_step (t := tab) (w := w) (name := name) hx
    have hll := lotM_len tab w name (w.lots.take k)
    rw [List.length_take] at hll
    obtain ⟨i1, i2⟩ := lo.id x hxm
    obtain ⟨i3, i4⟩ := lo.mi x hxm
    obtain ⟨i5, i6⟩ := lo.bi x hxm
    have hbl := lo.nb x hxm
    have n1 := nT_len x.id i1 i2
    have n2 := nT_len x.min i3 i4
    have n3 := nT_len x.bid i5 i6
    have hkl := kind_len bt z.proto
    have hcp := cap_len x.bidder
    have F1 := n_spec x.id i1 i2
    have F2 := Thing_spec d m w x.thing (by omega) (wl d m w)
    rw [hi] at F2
    simp only [iv] at F2
    have hlt : lotT tab w x = [76, 111, 116, 32] ++ nT x.id ++ [58, 32, 97, 32] ++ kindN tab z.proto ++ [44, 32] ++ if x.bid = 0 then nT x.min else nT x.bid ++ [32, 98, 121, 32] ++ capT x.bidder := by
      unfold lotT
      rw [hi]
      simp only [thingN, getD_of hz]
    rw [hlt] at hst
    clear hlt hi lo
    generalize lotM tab w name (w.lots.take k) = Lk at *
    have F3 := kind_spec t d e mt tab (S ++ Lk) u bt R z.proto
    have F4 := n_spec x.min i3 i4
    have F5 := n_spec x.bid i5 i6
    have F6 := Cap_spec x.bidder (by omega)
    by_cases hb : x.bid = 0
    · rw [if_pos hb] at hst
      have F7 := say_spec t d e (S ++ Lk) u name ([76, 111, 116, 32] ++ nT x.id ++ [58, 32, 97, 32] ++ kindN tab z.proto ++ [44, 32] ++ nT x.min) (by rw [List.length_append]; omega)
      replace hst := Bx.mk hst
      refine goW ?_
      (repeat' (first | exact trivial | apply And.intro | intro _))
      all_goals first
        | (exfalso; omega)
        | exact rnd (k + 1) hk2 (by omega) (hh := by rw [hst.get, ← List.append_assoc S Lk]; (exact ent_))
    · rw [if_neg hb] at hst
      have F7 := say_spec t d e (S ++ Lk) u name ([76, 111, 116, 32] ++ nT x.id ++ [58, 32, 97, 32] ++ kindN tab z.proto ++ [44, 32] ++ (nT x.bid ++ [32, 98, 121, 32] ++ capT x.bidder)) (by rw [List.length_append]; omega)
      replace hst := Bx.mk hst
      refine goW ?_
      (repeat' (first | exact trivial | apply And.intro | intro _))
      all_goals first
        | (exfalso; omega)
        | exact rnd (k + 1) hk2 (by omega) (hh := by rw [hst.get, ← List.append_assoc S Lk]; (exact ent_))
  rw [List.take_of_length_le (by omega)]
  refine goW ?_
  refine ⟨?_, by simp⟩ <;> intros
  exact ret0 ⟨rfl, rfl⟩
end
end Go.Proofs.YtflmbhkjhfmeoaaGreat
namespace Go.Proofs.YtflmbhkjhfmeoaaGreat
open Go.SL
set_option maxHeartbeats 8000000
set_option maxRecDepth 20000
section
variable (t d e : Nat) (m : Lay) (w : Wld) (mt : Tay) (tab : Tab) (S : List Sy) (u : Int)
theorem Offer_spec (bw : Bw w) (bt : Bt tab) (lm : Laid m w) (R : HProp) [hr : RT R e mt tab] (name word num : Tx) (hn : name.length ≤ 10000) (hw : word.length ≤ 10000) (hnx : 0 ≤ w.next ∧ w.next ≤ 4611686018427387904) (hnow : -4611686018427387904 ≤ w.now ∧ w.now ≤ 4611686018427387904) (hS : S.length ≤ 200000) :
    Trip Tryz.prog 233 [.pointer (some ⟨t, 0, none⟩), str name, str word, str num] [ts t d e S u, wl d m w, R] (fun v Ps => ∃ m', v = .tuple #[] ∧ Ps = [ts t d e (S ++ (offerA numM tab w name word num).2) u, wl d m' (offerA numM tab w name word num).1, R]) := by
  refine Trip.of (m := 132) Tryz.func233 rfl rfl rfl ?_
  intro o Rs
  simp only [List.cons_append, List.nil_append, enumFrom]
  haveI : Plan 9 [53, 57, 60, 64, 67, 71, 74, 78, 84, 87, 88] [0, 1, 2, 3, 4, 5, 6, 7, 8, 9, 10, 11, 12, 13, 14, 15, 16, 17, 18, 19, 20, 21, 22, 23, 24, 25, 26, 27, 28, 29, 30, 31, 32, 33, 34, 35, 36, 37, 38, 39, 40, 41, 42, 43, 44] := ⟨⟩
  haveI : Plan 10 [99, 102, 110, 113, 117] [0, 1, 2, 3, 4, 5, 6, 7, 8, 12, 13, 14, 15, 16, 17, 18, 19, 20, 21, 22, 23, 9, 10, 11, 24, 25, 26, 27] := ⟨⟩
  unfold offerA
  have F1 := on_spec t d e m w S u bw lm name
  rcases hc : onI w name with _ | c
  · rw [hc] at F1
    simp only [iv] at F1 ⊢
    refine goW ?_
    refine ⟨?_, by simp⟩ <;> intros
    exact ret0 ⟨m, rfl, by rw [List.append_nil]⟩
  obtain ⟨x, hx, hon, hnm⟩ := on_get hc
  rw [hc] at F1
  simp only [iv] at F1 ⊢
  have F2 := hall_spec t d e m w mt tab S u bw bt lm R name c x hx (by omega)
  by_cases hrk : roomK tab w c = 5
  case neg =>
    rw [if_pos hrk]
    rw [if_neg hrk, decide_eq_false hrk] at F2
    refine goW ?_
    refine ⟨?_, by simp⟩ <;> intros
    exact ret0 ⟨m, rfl, rfl⟩
  rw [if_pos hrk, List.append_nil, decide_eq_true hrk] at F2
  rw [if_neg (by simp [hrk])]
  clear hrk
  have F3 := have_spec t d e m w mt tab S u bw bt lm R name word (by omega) (by omega)
  cases hf : findA numM tab w (ofL w name 2) word with
  | none =>
    rw [hf] at F3
    simp only [iv, Option.isNone_none, if_true] at F3 ⊢
    clear hf
    refine goW ?_
    refine ⟨?_, by simp⟩ <;> intros
    exact ret0 ⟨m, rfl, rfl⟩
  | some k =>
    obtain ⟨z, hz⟩ := findA_get hf
    have hkl := (List.getElem?_eq_some_iff.1 hz).1
    rw [hf] at F3
    simp only [iv, Option.isNone_some, Bool.false_eq_true, if_false, List.append_nil] at F3 ⊢
    clear hf
    have F4 := much_spec t d e S u name num (by omega)
    cases hm : muchN numM num with
    | none =>
      rw [hm] at F4
      simp only [Option.isNone_none, if_true, Option.getD_none] at F4 ⊢
      clear hm
      refine goW ?_
      refine ⟨?_, by simp⟩ <;> intros
      exact ret0 ⟨m, rfl, rfl⟩
    | some n =>
      have hnr := num_range num
      have hn1 : 1 ≤ n ∧ n ≤ 1099511627776 := by
        unfold muchN at hm
        split at hm
        · cases hm
        · rename_i h
          simp only [not_or, Option.some.injEq] at h hm
          omega
      rw [hm] at F4
      simp only [Option.isNone_some, Bool.false_eq_true, if_false, Option.getD_some, List.append_nil] at F4 ⊢
      clear hm hnr
      by_cases hln : 10 ≤ w.lots.length
      · rw [if_pos hln]
        have F5 := say_spec t d e S u name [84, 104, 101, 114, 101, 32, 97, 114, 101, 32, 116, 111, 111, 32, 109, 97, 110, 121, 32, 108, 111, 116, 115, 46] (by omega)
        refine goW ?_
        refine ⟨?_, by simp⟩ <;> intros
        exact ret0 ⟨m, rfl, rfl⟩
      rw [if_neg hln]
      have b5 := bw.nt
      refine goW ?_
      refine ⟨?_, by simp⟩ <;> intros
      refine cal (put_spec t d e m w S u bw k z hz 4 0 []) ?_
      rintro _ _ ⟨rfl, rfl⟩
      simp only [List.cons_append, List.nil_append]
      refine W.nil (E.then_normal ?_)
      have hz1 := put_get hz 4 0 []
      have hl1 : (putW w k 4 0 []).lots = w.lots := rfl
      have hn3 : (putW w k 4 0 []).next = w.next := rfl
      have hn4 : (putW w k 4 0 []).now = w.now := rfl
      have hk1 := (List.getElem?_eq_some_iff.1 hz1).1
      have ht1 : thingN tab w k = kindN tab z.proto := by unfold thingN; rw [getD_of hz]
      rw [getD_of hz, ht1, ← hl1, ← hn4, ← hn3]
      have b6 : (putW w k 4 0 []).things.length ≤ 100000 := (bw_put bw k 4 0 []).nt
      have b7 : (putW w k 4 0 []).lots.length < 10 := by rw [hl1]; omega
      rw [← hn3] at hnx
      rw [← hn4] at hnow
      generalize putW w k 4 0 [] = w1 at *
      refine copenw (d := d) (m := m) (w := w1) fun lm1 => ?_
      simp only [List.cons_append, List.nil_append]
      have hkl2 := kind_len bt z.proto
      have hnl := nT_len w1.next (by omega) (by omega)
      have F5 := n_spec w1.next (by omega) (by omega)
      have F6 := kind_spec t d e mt tab S u bt R z.proto
      have F7 := say_spec t d e S u name ([76, 111, 116, 32] ++ nT w1.next ++ [58, 32, 97, 32] ++ kindN tab z.proto ++ [46]) (by omega)
      refine goW ?_
      (repeat' (first | exact trivial | apply And.intro | intro _))
      all_goals first
        | (exfalso; omega)
        | (rename_i A' c'
           refine efoldw d { m with loA := A', loC := c' } { w1 with lots := w1.lots ++ [⟨w1.next, z.id, name, n, 0, [], w1.now + 20⟩], next := w1.next + 1 } lm1 ?_
           exact ret0 ⟨_, rfl, rfl⟩)
end
end Go.Proofs.YtflmbhkjhfmeoaaGreat
