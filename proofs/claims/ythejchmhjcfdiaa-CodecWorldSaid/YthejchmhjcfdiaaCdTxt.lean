/-
  How many bytes a world's texts have, walked.
-/
import Derived.Test.YthejchmhjcfdiaaCdPure
namespace Go.Proofs.Ythejchmhjcfdiaa
open Go.SL
set_option linter.unusedVariables false
set_option linter.unusedSimpArgs false
set_option maxHeartbeats 8000000
theorem sum_next {α : Type} (t : α → Nat) {l : List α} {k : Nat} {x : α} (h : l[k]? = some x) : ((l.take (k + 1)).map t).sum = ((l.take k).map t).sum + t x := by
  rw [List.take_add_one, h]; simp
theorem sum_le {α : Type} (t : α → Nat) (l : List α) (k : Nat) : ((l.take k).map t).sum ≤ (l.map t).sum := by
  have h := congrArg (fun l => (l.map t).sum) (List.take_append_drop k l)
  simp only [List.map_append, List.sum_append] at h
  omega
theorem texts_spec (d : Nat) (m : Lay) (w : Wld) (sw : Short w) (hb : textsN w ≤ 1000000) (P : HProp) [hp : RW P d m w] (lm : Laid m w) :
    Trip Try.prog 11 [.pointer (some ⟨d, 0, none⟩)] [P] (fun v Ps => v = .int .i64 (textsN w : Int) ∧ Ps = [P]) := by
  refine Trip.of (m := 166) Try.func11 rfl rfl rfl ?_
  intro o Rs
  simp only [List.cons_append, List.nil_append, enumFrom]
  obtain ⟨a1, a2, a3, a4, a5, a6, a7, a8⟩ := sw
  have zc : w.chars.length = (w.chars.zip m.dn).length := by rw [List.length_zip, lm.1, Nat.min_self]
  have zh : w.houses.length = (w.houses.zip m.gs).length := by rw [List.length_zip, lm.2, Nat.min_self]
  have q1 := fun k => sum_le tChr w.chars k
  have q2 := fun k => sum_le tThg w.things k
  have q3 := fun k => sum_le tHse w.houses k
  have q4 := fun k => sum_le tLot w.lots k
  unfold textsN at hb ⊢
  generalize hsC : (w.chars.map tChr).sum = sC at q1 hb ⊢
  generalize hsT : (w.things.map tThg).sum = sT at q2 hb ⊢
  generalize hsH : (w.houses.map tHse).sum = sH at q3 hb ⊢
  generalize hsL : (w.lots.map tLot).sum = sL at q4 hb ⊢
  refine go ?_
  refine ⟨?_, by simp⟩ <;> intros
  refine loop (fun k => k ≤ w.chars.length) (fun k => [(0, .pointer (some ⟨d, 0, none⟩)), (3, .int .i64 ((64 + ((w.chars.take k).map tChr).sum : Nat) : Int)), (4, .int .i64 (k : Int))]) (fun k => P :: Rs) (fun k => w.chars.length - k) 0 (Nat.zero_le _) fun k hk => ?_
  by_cases hk2 : k < w.chars.length
  · obtain ⟨x, hx⟩ : ∃ x, w.chars[k]? = some x := ⟨_, List.getElem?_eq_getElem hk2⟩
    obtain ⟨⟨A, c⟩, hz, hg⟩ := zip_get hx lm.1
    have hn := sum_next tChr hx
    have hq := q1 (k + 1)
    have ht : tChr x = 64 + x.name.length + x.hash.length + 64 * x.done.length := rfl
    generalize ((w.chars.take k).map tChr).sum = s0 at *
    refine go ?_
    refine ⟨?_, by simp⟩ <;> intros
    exact rnd (k + 1) hk2 (by omega) ⟨rfl, congrArg (fun z => some (Value.int .i64 z)) (by (try dsimp only); omega), rfl, trivial⟩
  have e1 : ((w.chars.take k).map tChr).sum ≤ sC := q1 k
  obtain ⟨s1, hs1, hk1⟩ : ∃ s1, s1 = 64 + ((w.chars.take k).map tChr).sum ∧ s1 ≤ 64 + sC := ⟨_, rfl, by omega⟩
  rw [← hs1]
  have hf1 : s1 = 64 + sC := by rw [hs1, List.take_of_length_le (by omega)]; exact congrArg (64 + ·) hsC
  clear hs1 e1
  subst hf1
  refine go ?_
  refine ⟨?_, by simp⟩ <;> intros
  refine loop (fun k => k ≤ w.things.length) (fun k => [(0, .pointer (some ⟨d, 0, none⟩)), (3, .int .i64 ((64 + sC + ((w.things.take k).map tThg).sum : Nat) : Int)), (5, .int .i64 (k : Int))]) (fun k => P :: Rs) (fun k => w.things.length - k) 0 (Nat.zero_le _) fun k hk => ?_
  by_cases hk3 : k < w.things.length
  · obtain ⟨x, hx⟩ : ∃ x, w.things[k]? = some x := ⟨_, List.getElem?_eq_getElem hk3⟩
    have hn := sum_next tThg hx
    have hq := q2 (k + 1)
    have ht : tThg x = 64 + x.who.length := rfl
    generalize ((w.things.take k).map tThg).sum = s0 at *
    refine go ?_
    refine ⟨?_, by simp⟩ <;> intros
    exact rnd (k + 1) hk3 (by omega) ⟨rfl, congrArg (fun z => some (Value.int .i64 z)) (by (try dsimp only); omega), rfl, trivial⟩
  obtain ⟨s2, hs2⟩ : ∃ s2, s2 = 64 + sC + ((w.things.take k).map tThg).sum := ⟨_, rfl⟩
  rw [← hs2]
  have hf2 : s2 = 64 + sC + sT := by rw [hs2, List.take_of_length_le (by omega)]; exact congrArg (64 + sC + ·) hsT
  clear hs2
  subst hf2
  refine go ?_
  refine ⟨?_, by simp⟩ <;> intros
  refine loop (fun k => k ≤ w.houses.length) (fun k => [(0, .pointer (some ⟨d, 0, none⟩)), (3, .int .i64 ((64 + sC + sT + ((w.houses.take k).map tHse).sum : Nat) : Int)), (6, .int .i64 (k : Int))]) (fun k => P :: Rs) (fun k => w.houses.length - k) 0 (Nat.zero_le _) fun k hk => ?_
  by_cases hk4 : k < w.houses.length
  · obtain ⟨x, hx⟩ : ∃ x, w.houses[k]? = some x := ⟨_, List.getElem?_eq_getElem hk4⟩
    obtain ⟨⟨A, c⟩, hz, hg⟩ := zip_get hx lm.2
    have hgr : Reads P Enc.str A x.guests := hp.gs _ (List.mem_of_getElem? hz)
    have hgl := a8 x (List.mem_of_getElem? hx)
    have hn := sum_next tHse hx
    have hq := q3 (k + 1)
    have q5 := fun j => sum_le (fun g : Tx => 64 + g.length) x.guests j
    have ht : tHse x = 64 + x.owner.length + (x.guests.map fun g : Tx => 64 + g.length).sum := rfl
    generalize hsG : (x.guests.map fun g : Tx => 64 + g.length).sum = sG at q5 ht
    generalize ((w.houses.take k).map tHse).sum = s0 at *
    refine go ?_
    refine ⟨?_, by simp⟩ <;> intros
    refine loop (fun j => j ≤ x.guests.length) (fun j => [(0, .pointer (some ⟨d, 0, none⟩)), (3, .int .i64 ((64 + sC + sT + s0 + 64 + x.owner.length + ((x.guests.take j).map fun g : Tx => 64 + g.length).sum : Nat) : Int)), (6, .int .i64 (k : Int)), (7, .int .i64 (j : Int))]) (fun j => P :: Rs) (fun j => x.guests.length - j) 0 (Nat.zero_le _) (fun j hj => ?_) ⟨rfl, congrArg (fun z => some (Value.int .i64 z)) (by (try dsimp only); simp only [List.take_zero, List.map_nil, List.sum_nil]; omega), rfl, rfl, trivial⟩
    by_cases hj2 : j < x.guests.length
    · obtain ⟨y, hy⟩ : ∃ y, x.guests[j]? = some y := ⟨_, List.getElem?_eq_getElem hj2⟩
      have hn2 := sum_next (fun g : Tx => 64 + g.length) hy
      have hq2 := q5 (j + 1)
      generalize ((x.guests.take j).map fun g : Tx => 64 + g.length).sum = s5 at *
      refine go ?_
      refine ⟨?_, by simp⟩ <;> intros
      exact rnd (j + 1) hj2 (by omega) ⟨rfl, congrArg (fun z => some (Value.int .i64 z)) (by (try dsimp only); omega), rfl, rfl, trivial⟩
    have hf5 : ((x.guests.take j).map fun g : Tx => 64 + g.length).sum = sG := by rw [List.take_of_length_le (by omega)]; exact hsG
    rw [hf5]
    refine go ?_
    refine ⟨?_, by simp⟩ <;> intros
    exact rnd (k + 1) hk4 (by omega) ⟨rfl, congrArg (fun z => some (Value.int .i64 z)) (by (try dsimp only); omega), rfl, trivial⟩
  obtain ⟨s3, hs3⟩ : ∃ s3, s3 = 64 + sC + sT + ((w.houses.take k).map tHse).sum := ⟨_, rfl⟩
  rw [← hs3]
  have hf3 : s3 = 64 + sC + sT + sH := by rw [hs3, List.take_of_length_le (by omega)]; exact congrArg (64 + sC + sT + ·) hsH
  clear hs3
  subst hf3
  refine go ?_
  refine ⟨?_, by simp⟩ <;> intros
  refine loop (fun k => k ≤ w.lots.length) (fun k => [(0, .pointer (some ⟨d, 0, none⟩)), (3, .int .i64 ((64 + sC + sT + sH + ((w.lots.take k).map tLot).sum : Nat) : Int)), (8, .int .i64 (k : Int))]) (fun k => P :: Rs) (fun k => w.lots.length - k) 0 (Nat.zero_le _) fun k hk => ?_
  by_cases hk5 : k < w.lots.length
  · obtain ⟨x, hx⟩ : ∃ x, w.lots[k]? = some x := ⟨_, List.getElem?_eq_getElem hk5⟩
    have hn := sum_next tLot hx
    have hq := q4 (k + 1)
    have ht : tLot x = 64 + x.seller.length + x.bidder.length := rfl
    generalize ((w.lots.take k).map tLot).sum = s0 at *
    refine go ?_
    refine ⟨?_, by simp⟩ <;> intros
    exact rnd (k + 1) hk5 (by omega) ⟨rfl, congrArg (fun z => some (Value.int .i64 z)) (by (try dsimp only); omega), rfl, trivial⟩
  obtain ⟨s4, hs4⟩ : ∃ s4, s4 = 64 + sC + sT + sH + ((w.lots.take k).map tLot).sum := ⟨_, rfl⟩
  rw [← hs4]
  have hf4 : s4 = 64 + sC + sT + sH + sL := by rw [hs4, List.take_of_length_le (by omega)]; exact congrArg (64 + sC + sT + sH + ·) hsL
  clear hs4
  subst hf4
  refine go ?_
  refine ⟨?_, by simp⟩ <;> intros
  exact congrArg (Value.int .i64) (by omega)
end Go.Proofs.Ythejchmhjcfdiaa
