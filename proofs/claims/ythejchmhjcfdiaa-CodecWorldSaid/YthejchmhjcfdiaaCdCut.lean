/-
  Worlds cut to what a statement speaks of.
-/
import Derived.Test.YthejchmhjcfdiaaCdCutE
import Derived.Test.YthejchmhjcfdiaaWoGo
namespace Go.Proofs.Ythejchmhjcfdiaa
open Go.SL
set_option linter.unusedVariables false
set_option linter.unusedSimpArgs false
set_option maxHeartbeats 8000000
def cutChr (c : Chr) : Chr := { c with name := c.name.take 30, hash := c.hash.take 70, done := c.done.take 8 }
def cutThg (c : Thg) : Thg := { c with who := c.who.take 30 }
def cutHse (c : Hse) : Hse := { c with owner := c.owner.take 30, guests := (c.guests.take 5).map (List.take 30) }
def cutLot (c : Lot) : Lot := { c with seller := c.seller.take 30, bidder := c.bidder.take 30 }
def cutW (w : Wld) : Wld := { w with chars := (w.chars.take 6).map cutChr, things := (w.things.take 12).map cutThg, mobs := w.mobs.take 8, houses := (w.houses.take 5).map cutHse, lots := (w.lots.take 5).map cutLot, tills := w.tills.take 5 }
theorem step_get {α : Type} (l : List α) (f : α → α) (k : Nat) {x : α} (hx : l[k]? = some x) : ((l.take k).map f ++ l.drop k)[k]? = some x := by
  have hk := (List.getElem?_eq_some_iff.1 hx).1
  rw [List.getElem?_append_right (by simp; omega), List.length_map, List.length_take, Nat.min_eq_left (by omega), Nat.sub_self, List.getElem?_drop, Nat.add_zero, hx]
theorem step_set {α : Type} (l : List α) (f : α → α) (k : Nat) {x y : α} (hx : l[k]? = some x) (hy : y = f x) : ((l.take k).map f ++ l.drop k).set k y = (l.take (k + 1)).map f ++ l.drop (k + 1) := by
  have hk := (List.getElem?_eq_some_iff.1 hx).1
  subst hy
  rw [List.set_append_right _ _ (by simp; omega), List.length_map, List.length_take, Nat.min_eq_left (by omega), Nat.sub_self, List.drop_eq_getElem_cons hk, List.set_cons_zero, List.take_add_one, hx]
  simp
theorem step_end {α : Type} (l : List α) (f : α → α) (k : Nat) (hk : l.length ≤ k) : (l.take k).map f ++ l.drop k = l.map f := by
  rw [List.take_of_length_le hk, List.drop_eq_nil_of_le hk, List.append_nil]
theorem step_zero {α : Type} (l : List α) (f : α → α) : (l.take 0).map f ++ l.drop 0 = l := by simp
theorem step_len {α : Type} (l : List α) (f : α → α) (k : Nat) : ((l.take k).map f ++ l.drop k).length = l.length := by
  rw [List.length_append, List.length_map, ← List.length_append, List.take_append_drop]
theorem CutW_spec (w : Wld) (hf : Fits w) (m0 : Lay) (R : HProp) (hR : ∀ d, RW (star2 (blk d 29 (wldC m0 w)) R) d m0 w) (hl : Laid m0 w) :
    Trip Try.prog 6 [.agg (wldC m0 w).toArray] [R] (fun v Ps => ∃ d m, v = .pointer (some ⟨d, 0, none⟩) ∧ Ps = [wl d m (cutW w)]) := by
  refine Trip.of (m := 268) Try.func6 rfl rfl rfl ?_
  intro o Rs
  simp only [List.cons_append, List.nil_append, enumFrom]
  haveI : Plan 8 [46, 51] [0, 1, 2, 3, 4, 5, 7, 8, 9, 10, 6, 11, 12, 13, 14, 15, 16, 17] := ⟨⟩
  haveI : Plan 16 [97, 102, 106] [0, 1, 2, 3, 4, 5, 6, 7, 8, 9, 10, 11, 12, 13, 14, 15, 16] := ⟨⟩
  haveI : Plan 31 [187, 192, 195] [0, 1, 2, 3, 4, 5, 6, 7, 8, 9, 10, 11, 12, 13, 14] := ⟨⟩
  haveI : Plan 37 [224, 229, 234, 238, 243, 247] [0, 1, 2, 3, 4, 5, 6, 7, 8, 9, 10, 11, 12, 13, 14, 15, 16, 17, 19, 20, 21, 22, 23, 24, 25, 26, 18, 27, 28, 29, 30, 31, 32, 33] := ⟨⟩
  refine goW ?_
  refine ⟨?_, by simp⟩ <;> intros
  rename_i b0
  refine W.two (A := blk b0 29 (wldC m0 w)) (B := R) (by (focus (with_reducible iterate 40 first | done | exact .here | apply Find.there); done)) (by (focus (with_reducible iterate 40 first | done | exact .here | apply Find.there); done)) (fun st hst => Sat.unite hst) ?_
  have hrw := hR b0
  refine W.callr (by exact rfl) (by (focus ((repeat (first | exact Ent.done | with_reducible exact Ent.same | (apply Ent.take; (first | (focus (with_reducible iterate 40 first | done | exact .here | apply Find.there); done) | (focus (iterate 40 first | done | exact .here | apply Find.there); done))) | (apply Ent.emp (sl_emp _ _)) | apply Ent.drop)); first | done | fail))) rfl (by (first | exact Keep.nil | (focus ((repeat (first | exact Incl.nil | (apply Incl.cons; (focus (with_reducible iterate 40 first | done | exact .here | apply Find.there); done)))); first | done | fail)) | exact Keep.free rfl | (focus (apply Keep.incl; (repeat (first | exact Incl.nil | (apply Incl.cons; (focus (with_reducible iterate 40 first | done | exact .here | apply Find.there); done)))); first | done | fail)))) ((Copy_spec b0 m0 w hf _ hl)) ?_
  rintro _ _ ⟨d, m, rfl, rfl⟩
  simp only [List.cons_append, List.nil_append]
  refine gowW ?_
  refine ⟨?_, by simp⟩ <;> intros
  refine E.then_normal ?_
  clear hR hrw hl
  refine C.fact (φ := _) (fun st hst => wl_caps (by (focus (with_reducible iterate 40 first | done | exact .here | apply Find.there); done)) hst) fun hc => ?_
  refine C.join (σ := Lay × Wld) (fun s => s.2 = { w with chars := w.chars.take 6 }) (fun s => [(3, .pointer (some ⟨d, 0, none⟩)), (2, .pointer none)]) (fun s => wl d s.1 s.2 :: Rs) ?_ ?_
  · refine C.seq ?_
    by_cases h6 : 6 < w.chars.length
    · refine goW ?_
      refine ⟨?_, by simp⟩ <;> intros
      exact jn (_, _) rfl
    · refine goW ?_
      refine ⟨?_, by simp⟩ <;> intros
      exact jn (m, w) (by rw [List.take_of_length_le (by omega)])
  rintro ⟨m1, w1⟩ e1
  simp only at e1
  have hb : w1.chars.length ≤ 6 := by rw [e1]; simp only [List.length_take]; omega
  refine goW ?_
  refine ⟨?_, by simp⟩ <;> intros
  refine loop (σ := Nat × Wld) (fun s => s.1 ≤ w1.chars.length ∧ s.2 = { w1 with chars := (w1.chars.take s.1).map cutChr ++ w1.chars.drop s.1 }) (fun s => [(3, .pointer (some ⟨d, 0, none⟩)), (2, .pointer none), (4, .int .i64 (s.1 : Int))]) (fun s => wl d m1 s.2 :: Rs) (fun s => w1.chars.length - s.1) (0, w1) ⟨Nat.zero_le _, by rw [step_zero]⟩ ?_
  rintro ⟨k, w2⟩ ⟨hk, el⟩
  simp only at hk el ⊢
  have hlen : w2.chars.length = w1.chars.length := by rw [el]; exact step_len _ _ _
  refine C.fact (φ := _) (fun st hst => wl_caps (by (focus (with_reducible iterate 40 first | done | exact .here | apply Find.there); done)) hst) fun hc => ?_
  by_cases hk2 : k < w1.chars.length
  · obtain ⟨x, hx⟩ : ∃ x, w1.chars[k]? = some x := ⟨_, List.getElem?_eq_getElem hk2⟩
    have hx2 : w2.chars[k]? = some x := by rw [el]; exact step_get _ _ _ hx
    obtain ⟨⟨A, c⟩, hz, hg⟩ := zip_get hx2 hc.2.2.2.2.2.2.1
    refine C.fact (φ := _) (fun st hst => wl_dn (by (focus (with_reducible iterate 40 first | done | exact .here | apply Find.there); done)) hst hz) fun hcd => ?_
    have hzl : w2.chars.length = (w2.chars.zip m1.dn).length := by rw [List.length_zip, hc.2.2.2.2.2.2.1, Nat.min_self]
    have F1 := Cut6_spec x.name 30 (by decide)
    have F2 := Cut6_spec x.hash 70 (by decide)
    have hs : w2.chars.set k (cutChr x) = (w1.chars.take (k + 1)).map cutChr ++ w1.chars.drop (k + 1) := by rw [el]; exact step_set _ _ _ hx rfl
    by_cases h8 : 8 < x.done.length
    · refine goW ?_
      refine ⟨?_, by simp⟩ <;> intros
      exact rnd (k + 1, { w2 with chars := w2.chars.set k (cutChr x) }) ⟨hk2, by rw [hs, el]⟩ (by omega) (hh := Ent.same)
    · have hcx : cutChr x = { x with name := x.name.take 30, hash := x.hash.take 70 } := by simp only [cutChr, List.take_of_length_le (by omega : x.done.length ≤ 8)]
      refine goW ?_
      refine ⟨?_, by simp⟩ <;> intros
      exact rnd (k + 1, { w2 with chars := w2.chars.set k { x with name := x.name.take 30, hash := x.hash.take 70 } }) ⟨hk2, by rw [← hcx, hs, el]⟩ (by omega) (hh := Ent.same)
  have e2 : w2 = { w1 with chars := w1.chars.map cutChr } := by rw [el, step_end w1.chars cutChr k (by omega)]
  clear el
  refine gorW ?_
  refine ⟨?_, by simp⟩ <;> intros
  refine C.seq ?_
  refine gorW ?_
  refine ⟨?_, by simp⟩ <;> intros
  refine C.join (σ := Wld) (fun s => s = { w2 with things := w2.things.take 12 }) (fun s => [(3, .pointer (some ⟨d, 0, none⟩)), (2, .pointer none)]) (fun s => wl d m1 s :: Rs) ?_ ?_
  · by_cases h6 : 12 < w2.things.length
    · refine goW ?_
      refine ⟨?_, by simp⟩ <;> intros
      exact jn _ rfl (hh := Ent.same)
    · refine goW ?_
      refine ⟨?_, by simp⟩ <;> intros
      exact jn w2 (by rw [List.take_of_length_le (by omega)])
  intro w3 e3
  have hb3 : w3.things.length ≤ 12 := by rw [e3]; simp only [List.length_take]; omega
  clear hc hlen hk hk2 hb
  refine goW ?_
  refine ⟨?_, by simp⟩ <;> intros
  refine loop (σ := Nat × Wld) (fun s => s.1 ≤ w3.things.length ∧ s.2 = { w3 with things := (w3.things.take s.1).map cutThg ++ w3.things.drop s.1 }) (fun s => [(3, .pointer (some ⟨d, 0, none⟩)), (2, .pointer none), (6, .int .i64 (s.1 : Int))]) (fun s => wl d m1 s.2 :: Rs) (fun s => w3.things.length - s.1) (0, w3) ⟨Nat.zero_le _, by rw [step_zero]⟩ ?_
  rintro ⟨k, w4⟩ ⟨hk, el⟩
  simp only at hk el ⊢
  have hlen : w4.things.length = w3.things.length := by rw [el]; exact step_len _ _ _
  by_cases hk2 : k < w3.things.length
  · obtain ⟨x, hx⟩ : ∃ x, w3.things[k]? = some x := ⟨_, List.getElem?_eq_getElem hk2⟩
    have hx2 : w4.things[k]? = some x := by rw [el]; exact step_get _ _ _ hx
    have F1 := Cut6_spec x.who 30 (by decide)
    have hs : w4.things.set k (cutThg x) = (w3.things.take (k + 1)).map cutThg ++ w3.things.drop (k + 1) := by rw [el]; exact step_set _ _ _ hx rfl
    refine goW ?_
    refine ⟨?_, by simp⟩ <;> intros
    exact rnd (k + 1, { w4 with things := w4.things.set k (cutThg x) }) ⟨hk2, by rw [hs, el]⟩ (by omega) (hh := Ent.same)
  have e4 : w4 = { w3 with things := w3.things.map cutThg } := by rw [el, step_end w3.things cutThg k (by omega)]
  clear el
  refine C.fact (φ := _) (fun st hst => wl_caps (by (focus (with_reducible iterate 40 first | done | exact .here | apply Find.there); done)) hst) fun hc => ?_
  refine gorW ?_
  refine ⟨?_, by simp⟩ <;> intros
  refine C.seq ?_
  refine gorW ?_
  refine ⟨?_, by simp⟩ <;> intros
  refine C.join (σ := Wld) (fun s => s = { w4 with mobs := w4.mobs.take 8 }) (fun s => [(3, .pointer (some ⟨d, 0, none⟩)), (2, .pointer none)]) (fun s => wl d m1 s :: Rs) ?_ ?_
  · by_cases h6 : 8 < w4.mobs.length
    · refine goW ?_
      refine ⟨?_, by simp⟩ <;> intros
      exact jn _ rfl (hh := Ent.same)
    · refine goW ?_
      refine ⟨?_, by simp⟩ <;> intros
      exact jn w4 (by rw [List.take_of_length_le (by omega)])
  intro w5 e5
  clear hc hlen hk hk2 hb3
  refine C.fact (φ := _) (fun st hst => wl_caps (by (focus (with_reducible iterate 40 first | done | exact .here | apply Find.there); done)) hst) fun hc => ?_
  refine C.join (σ := Lay × Wld) (fun s => s.2 = { w5 with houses := w5.houses.take 5 }) (fun s => [(3, .pointer (some ⟨d, 0, none⟩)), (2, .pointer none)]) (fun s => wl d s.1 s.2 :: Rs) ?_ ?_
  · refine C.seq ?_
    by_cases h6 : 5 < w5.houses.length
    · refine goW ?_
      refine ⟨?_, by simp⟩ <;> intros
      exact jn (_, _) rfl
    · refine goW ?_
      refine ⟨?_, by simp⟩ <;> intros
      exact jn (m1, w5) (by rw [List.take_of_length_le (by omega)])
  rintro ⟨m2, w6⟩ e6
  simp only at e6
  have hb6 : w6.houses.length ≤ 5 := by rw [e6]; simp only [List.length_take]; omega
  clear hc
  refine goW ?_
  refine ⟨?_, by simp⟩ <;> intros
  refine loop (σ := Nat × Wld) (fun s => s.1 ≤ w6.houses.length ∧ s.2 = { w6 with houses := (w6.houses.take s.1).map cutHse ++ w6.houses.drop s.1 }) (fun s => [(3, .pointer (some ⟨d, 0, none⟩)), (2, .pointer none), (7, .int .i64 (s.1 : Int))]) (fun s => wl d m2 s.2 :: Rs) (fun s => w6.houses.length - s.1) (0, w6) ⟨Nat.zero_le _, by rw [step_zero]⟩ ?_
  rintro ⟨k, w7⟩ ⟨hk, el⟩
  simp only at hk el ⊢
  have hlen : w7.houses.length = w6.houses.length := by rw [el]; exact step_len _ _ _
  refine C.fact (φ := _) (fun st hst => wl_caps (by (focus (with_reducible iterate 40 first | done | exact .here | apply Find.there); done)) hst) fun hc => ?_
  by_cases hk2 : k < w6.houses.length
  · obtain ⟨x, hx⟩ : ∃ x, w6.houses[k]? = some x := ⟨_, List.getElem?_eq_getElem hk2⟩
    have hx2 : w7.houses[k]? = some x := by rw [el]; exact step_get _ _ _ hx
    obtain ⟨⟨A, c⟩, hz, hg⟩ := zip_get hx2 hc.2.2.2.2.2.2.2
    refine C.fact (φ := _) (fun st hst => wl_gs (by (focus (with_reducible iterate 40 first | done | exact .here | apply Find.there); done)) hst hz) fun hcd => ?_
    have hzl : w7.houses.length = (w7.houses.zip m2.gs).length := by rw [List.length_zip, hc.2.2.2.2.2.2.2, Nat.min_self]
    have F1 := Cut6_spec x.owner 30 (by decide)
    have hs : w7.houses.set k (cutHse x) = (w6.houses.take (k + 1)).map cutHse ++ w6.houses.drop (k + 1) := by rw [el]; exact step_set _ _ _ hx rfl
    refine C.seq ?_
    refine gorW ?_
    refine ⟨?_, by simp⟩ <;> intros
    refine C.seq ?_
    refine gorW ?_
    refine ⟨?_, by simp⟩ <;> intros
    have hg5 : (x.guests.take 5).length ≤ 5 := by rw [List.length_take]; omega
    refine C.join (σ := Wld) (fun s => s = { w7 with houses := w7.houses.set k { x with owner := x.owner.take 30, guests := x.guests.take 5 } }) (fun s => [(3, .pointer (some ⟨d, 0, none⟩)), (2, .pointer none), (7, .int .i64 (k : Int)), (8, .pointer (some ⟨bk m2.hoA, of m2.hoA + k * 4, none⟩))]) (fun s => wl d m2 s :: Rs) ?_ ?_
    · refine C.seq ?_
      by_cases h8 : 5 < x.guests.length
      · refine goW ?_
        refine ⟨?_, by simp⟩ <;> intros
        exact jn _ rfl (hh := Ent.same)
      · refine goW ?_
        refine ⟨?_, by simp⟩ <;> intros
        exact jn { w7 with houses := w7.houses.set k { x with owner := x.owner.take 30 } } (by rw [show x.guests.take 5 = x.guests from List.take_of_length_le (by omega)]) (hh := Ent.same)
    intro w8 e8
    have hcs : cutHse x = { x with owner := x.owner.take 30, guests := (x.guests.take 5).map (List.take 30) } := rfl
    generalize x.guests.take 5 = gs at *
    clear F1
    refine goW ?_
    refine ⟨?_, by simp⟩ <;> intros
    refine loop (σ := Nat × Wld) (fun s => s.1 ≤ gs.length ∧ s.2 = { w7 with houses := w7.houses.set k { x with owner := x.owner.take 30, guests := (gs.take s.1).map (List.take 30) ++ gs.drop s.1 } }) (fun s => [(3, .pointer (some ⟨d, 0, none⟩)), (2, .pointer none), (7, .int .i64 (k : Int)), (8, .pointer (some ⟨bk m2.hoA, of m2.hoA + k * 4, none⟩)), (9, .int .i64 (s.1 : Int))]) (fun s => wl d m2 s.2 :: Rs) (fun s => gs.length - s.1) (0, w8) ⟨Nat.zero_le _, by rw [step_zero]; exact e8⟩ ?_
    rintro ⟨j, w9⟩ ⟨hj, el9⟩
    simp only at hj el9 ⊢
    obtain ⟨l, hl⟩ : ∃ l, l = (gs.take j).map (List.take 30) ++ gs.drop j := ⟨_, rfl⟩
    rw [← hl] at el9
    have hll : l.length = gs.length := by rw [hl]; exact step_len _ _ _
    have hx9 : w9.houses[k]? = some { x with owner := x.owner.take 30, guests := l } := by rw [el9]; exact get_set hx2
    have hz9 : (w9.houses.zip m2.gs)[k]? = some ({ x with owner := x.owner.take 30, guests := l }, (A, c)) := get_zip hx9 hg
    have hgr : Reads (wl d m2 w9) Enc.str A l := (wl_rw (d := d) (m := m2) (w := w9)).gs _ (List.mem_of_getElem? hz9)
    by_cases hj2 : j < gs.length
    · obtain ⟨y, hy⟩ : ∃ y, gs[j]? = some y := ⟨_, List.getElem?_eq_getElem hj2⟩
      have hy2 : l[j]? = some y := by rw [hl]; exact step_get _ _ _ hy
      have F1 := Cut6_spec y 30 (by decide)
      have hs9 : l.set j (y.take 30) = (gs.take (j + 1)).map (List.take 30) ++ gs.drop (j + 1) := by rw [hl]; exact step_set _ _ _ hy rfl
      refine goW ?_
      refine ⟨?_, by simp⟩ <;> intros
      exact rnd (j + 1, { w9 with houses := w9.houses.set k { x with owner := x.owner.take 30, guests := l.set j (y.take 30) } }) ⟨hj2, by rw [← hs9, el9]; simp only [List.set_set]⟩ (by omega) (hh := Ent.same)
    have hl2 : l = gs.map (List.take 30) := by rw [hl]; exact step_end _ _ _ (by omega)
    refine goW ?_
    refine ⟨?_, by simp⟩ <;> intros
    exact rnd (k + 1, w9) ⟨hk2, by rw [el9, hl2, ← hcs, hs, el]⟩ (by omega)
  have e7 : w7 = { w6 with houses := w6.houses.map cutHse } := by rw [el, step_end w6.houses cutHse k (by omega)]
  clear el
  refine gorW ?_
  refine ⟨?_, by simp⟩ <;> intros
  refine C.seq ?_
  refine gorW ?_
  refine ⟨?_, by simp⟩ <;> intros
  refine C.join (σ := Wld) (fun s => s = { w7 with lots := w7.lots.take 5 }) (fun s => [(3, .pointer (some ⟨d, 0, none⟩)), (2, .pointer none)]) (fun s => wl d m2 s :: Rs) ?_ ?_
  · by_cases h6 : 5 < w7.lots.length
    · refine goW ?_
      refine ⟨?_, by simp⟩ <;> intros
      exact jn _ rfl (hh := Ent.same)
    · refine goW ?_
      refine ⟨?_, by simp⟩ <;> intros
      exact jn w7 (by rw [List.take_of_length_le (by omega)])
  intro w8 e8
  have hb8 : w8.lots.length ≤ 5 := by rw [e8]; simp only [List.length_take]; omega
  clear hc hlen hk hk2 hb6
  refine goW ?_
  refine ⟨?_, by simp⟩ <;> intros
  refine loop (σ := Nat × Wld) (fun s => s.1 ≤ w8.lots.length ∧ s.2 = { w8 with lots := (w8.lots.take s.1).map cutLot ++ w8.lots.drop s.1 }) (fun s => [(3, .pointer (some ⟨d, 0, none⟩)), (2, .pointer none), (10, .int .i64 (s.1 : Int))]) (fun s => wl d m2 s.2 :: Rs) (fun s => w8.lots.length - s.1) (0, w8) ⟨Nat.zero_le _, by rw [step_zero]⟩ ?_
  rintro ⟨k, w9⟩ ⟨hk, el⟩
  simp only at hk el ⊢
  have hlen : w9.lots.length = w8.lots.length := by rw [el]; exact step_len _ _ _
  by_cases hk2 : k < w8.lots.length
  · obtain ⟨x, hx⟩ : ∃ x, w8.lots[k]? = some x := ⟨_, List.getElem?_eq_getElem hk2⟩
    have hx2 : w9.lots[k]? = some x := by rw [el]; exact step_get _ _ _ hx
    have F1 := Cut6_spec x.seller 30 (by decide)
    have F2 := Cut6_spec x.bidder 30 (by decide)
    have hs : w9.lots.set k (cutLot x) = (w8.lots.take (k + 1)).map cutLot ++ w8.lots.drop (k + 1) := by rw [el]; exact step_set _ _ _ hx rfl
    refine goW ?_
    refine ⟨?_, by simp⟩ <;> intros
    exact rnd (k + 1, { w9 with lots := w9.lots.set k (cutLot x) }) ⟨hk2, by rw [hs, el]⟩ (by omega) (hh := Ent.same)
  have e9 : w9 = { w8 with lots := w8.lots.map cutLot } := by rw [el, step_end w8.lots cutLot k (by omega)]
  clear el
  refine C.fact (φ := _) (fun st hst => wl_caps (by (focus (with_reducible iterate 40 first | done | exact .here | apply Find.there); done)) hst) fun hc => ?_
  refine gorW ?_
  refine ⟨?_, by simp⟩ <;> intros
  refine C.seq ?_
  refine gorW ?_
  refine ⟨?_, by simp⟩ <;> intros
  refine C.join (σ := Wld) (fun s => s = { w9 with tills := w9.tills.take 5 }) (fun s => [(3, .pointer (some ⟨d, 0, none⟩)), (2, .pointer none)]) (fun s => wl d m2 s :: Rs) ?_ ?_
  · by_cases h6 : 5 < w9.tills.length
    · refine goW ?_
      refine ⟨?_, by simp⟩ <;> intros
      exact jn _ rfl (hh := Ent.same)
    · refine goW ?_
      refine ⟨?_, by simp⟩ <;> intros
      exact jn w9 (by rw [List.take_of_length_le (by omega)])
  intro w10 e10
  have hfin : w10 = cutW w := by
    subst e10 e9 e8 e7 e5 e4 e3 e2
    simp only [e6, e1, cutW]
  subst hfin
  refine goW ?_
  refine ⟨?_, by simp⟩ <;> intros
  exact ret1 ⟨d, m2, rfl, rfl⟩
end Go.Proofs.Ythejchmhjcfdiaa
