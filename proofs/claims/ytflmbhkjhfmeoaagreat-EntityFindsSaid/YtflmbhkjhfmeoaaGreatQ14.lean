/-
  Walks and laws joined: WdKill.
-/
import Derived.Test.YtflmbhkjhfmeoaaGreatQ13
import Derived.Test.YtflmbhkjhfmeoaaGreatQ09
set_option linter.unusedVariables false
set_option linter.unusedSimpArgs false
namespace Go.Proofs.YtflmbhkjhfmeoaaGreat
open Go.SL
set_option maxHeartbeats 8000000
set_option maxRecDepth 20000
theorem ord_len (s : Tx) : (ordN numM s).2.length ≤ s.length := by
  unfold ordN
  split
  · simp
  · split
    · simp
    · simp only [List.length_drop]; omega
section
variable (t d e : Nat) (m : Lay) (w : Wld) (mt : Tay) (tab : Tab) (S : List Sy) (u : Int)
theorem Kill_spec (bw : Bw w) (bt : Bt tab) (lm : Laid m w) (R : HProp) [hr : RT R e mt tab] (name word : Tx) (hn : name.length ≤ 10000) (hw : word.length ≤ 10000) (hS : S.length ≤ 200000) :
    Trip Tryz.prog 12 [.pointer (some ⟨t, 0, none⟩), str name, str word] [ts t d e S u, wl d m w, R] (fun v Ps => v = .tuple #[] ∧ Ps = [ts t d e (S ++ (killA numM tab w name word).2) u, wl d m (killA numM tab w name word).1, R]) := by
  refine Trip.of (m := 123) Tryz.func12 rfl rfl rfl ?_
  intro o Rs
  simp only [List.cons_append, List.nil_append, enumFrom]
  haveI : Plan 13 [80, 83, 88, 91, 95, 98] [0, 1, 2, 3, 4, 5, 6, 7, 8, 9, 10, 11, 12, 13, 14, 15, 16, 17, 18, 19, 20, 21, 22, 23, 24] := ⟨⟩
  unfold killA
  have zc : w.chars.length = (w.chars.zip m.dn).length := by rw [List.length_zip, lm.1, Nat.min_self]
  have F1 := on_spec t d e m w S u bw lm name
  rcases hc : onI w name with _ | c
  · rw [hc] at F1
    simp only [iv] at F1 ⊢
    refine goW ?_
    refine ⟨?_, by simp⟩ <;> intros
    exact ret0 ⟨rfl, by rw [List.append_nil]⟩
  obtain ⟨x, hx, hon, hnm⟩ := on_get hc
  have hcl := (List.getElem?_eq_some_iff.1 hx).1
  obtain ⟨⟨A0, c0⟩, hz, _⟩ := zip_get hx lm.1
  rw [hc] at F1
  simp only [iv, getD_of hx] at F1 ⊢
  by_cases hfo : x.foe = 0
  case neg =>
    rw [if_pos hfo]
    have F2 := say_spec t d e S u name [89, 111, 117, 32, 97, 114, 101, 32, 102, 105, 103, 104, 116, 105, 110, 103, 46] (by omega)
    refine goW ?_
    refine ⟨?_, by simp⟩ <;> intros
    exact ret0 ⟨rfl, rfl⟩
  rw [if_neg (by simpa using hfo)]
  have b1 := bw.nm
  have F2 := Ordinal_spec word (by omega)
  have F3 := Mobs_spec d m w x.room (by omega) (wl d m w)
  have hrg := ord_range word
  have hnl := ord_len word
  have hll : (mobsL w x.room).length ≤ 100000 := Nat.le_trans (pos_len _ _) b1
  have hil := ints_len (mobsL w x.room)
  refine goW ?_
  refine ⟨?_, by simp⟩ <;> intros
  rename_i A3 c3
  clear F1 F2 F3
  generalize (ordN numM word).1 = n at *
  generalize (ordN numM word).2 = nm at *
  generalize hF : (fun i => (mprOf tab (w.mobs.getD i default).proto).name == nm) = f
  refine loop (σ := Nat) (fun k => k ≤ (mobsL w x.room).length ∧ (1 ≤ n → ((((mobsL w x.room).take k).filter f).length : Int) < n) ∧ (n < 1 → k = 0)) (fun k => [(0, .pointer (some ⟨t, 0, none⟩)), (1, str name), (2, str word), (6, .int .i64 (c : Int)), (7, .int .i64 x.room), (8, .int .i64 (n - ((((mobsL w x.room).take k).filter f).length : Int))), (9, str nm), (10, .slice A3 (ints (mobsL w x.room)).length c3), (11, .int .i64 (k : Int))])
    (fun k => ts t d e S u :: wl d m w :: R :: sl E64 3 A3 c3 (ints (mobsL w x.room)) :: Rs) (fun k => (mobsL w x.room).length - k) 0 ⟨Nat.zero_le _, fun h => by simp; omega, fun _ => rfl⟩ (fun k ⟨h1, h2, h3⟩ => ?_) ⟨rfl, rfl, rfl, rfl, rfl, congrArg (fun z => some (Value.int .i64 z)) (by simp), rfl, rfl, rfl, trivial⟩
  have F9 := say_spec t d e S u name ([89, 111, 117, 32, 115, 101, 101, 32, 110, 111, 32] ++ word ++ [32, 104, 101, 114, 101, 46]) (by omega)
  by_cases hn1 : n < 1
  · have hk := h3 hn1
    subst hk
    rw [nth_none (.inl hn1)]
    simp only [List.take_zero, List.filter_nil, List.length_nil]
    refine goW ?_
    (repeat' (first | exact trivial | apply And.intro | intro _))
    all_goals exact ret0 ⟨rfl, rfl⟩
  have hc2 := h2 (by omega)
  generalize hcn : (((mobsL w x.room).take k).filter f).length = cn at *
  by_cases hk : k < (mobsL w x.room).length
  · obtain ⟨i, hi⟩ : ∃ i, (mobsL w x.room)[k]? = some i := ⟨_, List.getElem?_eq_getElem hk⟩
    have hi2 := ints_get hi
    have hst := cnt_step (f := f) hi
    have miss : f i = false → (((mobsL w x.room).take (k + 1)).filter f).length = cn := fun h => by rw [hst, if_neg (by simp [h]), List.append_nil, hcn]
    have more : f i = true → (((mobsL w x.room).take (k + 1)).filter f).length = cn + 1 := fun h => by rw [hst, if_pos h, List.length_append, hcn]; rfl
    obtain ⟨y, hy, _⟩ := pos_mem (List.mem_of_getElem? hi)
    have hyl := (List.getElem?_eq_some_iff.1 hy).1
    have hfe : f i = ((mprOf tab y.proto).name == nm) := by rw [← hF]; simp only [getD_of hy]
    have F1 := mob_spec t d e m w mt tab S u bw bt R i y hy
    by_cases hfi : (mprOf tab y.proto).name = nm
    · have hft : f i = true := by rw [hfe]; simpa using hfi
      by_cases hl1 : n - cn = 1
      · rw [nth_hit hi hft (by rw [hcn]; exact hl1)]
        simp only [getD_of hy]
        rw [setC_eq hx]
        have bw2 := bw_setc bw hx { x with foe := y.id } rfl
        have lm2 := laid_setc lm c { x with foe := y.id }
        have hcp := cap_len name
        have F2 := say_spec t d e S u name ([89, 111, 117, 32, 97, 116, 116, 97, 99, 107, 32, 97, 32] ++ nm ++ [46]) (by omega)
        have F3 := Cap_spec name (by omega)
        have F4 := others_spec t d e m { w with chars := w.chars.set c { x with foe := y.id } } (S ++ [(name, [89, 111, 117, 32, 97, 116, 116, 97, 99, 107, 32, 97, 32] ++ nm ++ [46])]) u x.room name (capT name ++ [32, 97, 116, 116, 97, 99, 107, 115, 32, 97, 32] ++ nm ++ [46]) (by rw [List.length_append, List.length_singleton]; omega) bw2.nc lm2
        have hap : ∀ (a : Sy) (l : List Sy), S ++ (a :: l) = S ++ [a] ++ l := fun a l => by rw [List.append_assoc]; rfl
        have hap2 := fun a => hap a (othersL { w with chars := w.chars.set c { x with foe := y.id } } x.room name (capT name ++ [32, 97, 116, 116, 97, 99, 107, 115, 32, 97, 32] ++ nm ++ [46]))
        clear hap
        refine goW ?_
        (repeat' (first | exact trivial | apply And.intro | intro _))
        all_goals first
          | (exfalso; first | contradiction | omega)
          | (rw [hap2]; exact ret0 ⟨rfl, rfl⟩)
      · refine goW ?_
        (repeat' (first | exact trivial | apply And.intro | intro _))
        all_goals first
          | (exfalso; first | contradiction | omega)
          | exact rnd (k + 1) ⟨hk, fun _ => by rw [more hft]; omega, fun h => by omega⟩ (by omega) ⟨rfl, rfl, rfl, rfl, rfl, congrArg (fun z => some (Value.int .i64 z)) (by rw [more hft]; omega), rfl, rfl, rfl, trivial⟩
    · have hff : f i = false := by rw [hfe]; simpa using hfi
      refine goW ?_
      (repeat' (first | exact trivial | apply And.intro | intro _))
      all_goals first
        | (exfalso; first | contradiction | omega)
        | exact rnd (k + 1) ⟨hk, fun _ => by rw [miss hff]; exact hc2, fun h => by omega⟩ (by omega) ⟨rfl, rfl, rfl, rfl, rfl, congrArg (fun z => some (Value.int .i64 z)) (by rw [miss hff]), rfl, rfl, rfl, trivial⟩
  · rw [List.take_of_length_le (by omega)] at hcn
    rw [nth_none (.inr (by rw [hcn]; exact hc2))]
    simp only
    refine goW ?_
    refine ⟨?_, by simp⟩ <;> intros
    exact ret0 ⟨rfl, rfl⟩
end
end Go.Proofs.YtflmbhkjhfmeoaaGreat
