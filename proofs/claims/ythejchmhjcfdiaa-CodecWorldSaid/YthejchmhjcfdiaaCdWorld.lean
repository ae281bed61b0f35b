/-
  Worlds, written.
-/
import Derived.Test.YthejchmhjcfdiaaCdChar
namespace Go.Proofs.Ythejchmhjcfdiaa
open Go.SL
set_option linter.unusedVariables false
set_option linter.unusedSimpArgs false
set_option maxHeartbeats 4000000
structure ThgOk (t : Thg) : Prop where
  id : OkI t.id
  proto : OkI t.proto
  place : OkI t.place
  room : OkI t.room
  who : t.who.length ≤ 100
structure MobOk (t : Mob) : Prop where
  id : OkI t.id
  proto : OkI t.proto
  room : OkI t.room
  hp : OkI t.hp
structure LotOk (t : Lot) : Prop where
  id : OkI t.id
  thing : OkI t.thing
  seller : t.seller.length ≤ 100
  min : OkI t.min
  bid : OkI t.bid
  bidder : t.bidder.length ≤ 100
  ends : OkI t.ends
structure TillOk (t : Till) : Prop where
  room : OkI t.room
  gold : OkI t.gold
structure WldOk (w : Wld) : Prop where
  now : OkI w.now
  next : OkI w.next
  minted : OkI w.minted
  chars : ∀ x ∈ w.chars, ChrOk x
  things : ∀ x ∈ w.things, ThgOk x
  mobs : ∀ x ∈ w.mobs, MobOk x
  houses : ∀ x ∈ w.houses, HseOk x
  lots : ∀ x ∈ w.lots, LotOk x
  tills : ∀ x ∈ w.tills, TillOk x
  nc : w.chars.length ≤ 20
  nt : w.things.length ≤ 20
  nm : w.mobs.length ≤ 20
  nh : w.houses.length ≤ 20
  nl : w.lots.length ≤ 20
  ni : w.tills.length ≤ 20
def thgE (t : Thg) : List UInt8 := ([t.id, t.proto, t.place, t.room] : List Int).flatMap intE ++ textE t.who
def mobE (t : Mob) : List UInt8 := ([t.id, t.proto, t.room, t.hp] : List Int).flatMap intE
def lotE (t : Lot) : List UInt8 := ([t.id, t.thing] : List Int).flatMap intE ++ textE t.seller ++ ([t.min, t.bid] : List Int).flatMap intE ++ textE t.bidder ++ ([t.ends] : List Int).flatMap intE
def tillE (t : Till) : List UInt8 := ([t.room, t.gold] : List Int).flatMap intE
def lstE {α : Type} (f : α → List UInt8) (xs : List α) : List UInt8 := lenE 8 xs.length ++ xs.flatMap f
def worldE (w : Wld) : List UInt8 := ([w.now, w.next, w.minted] : List Int).flatMap intE ++ lstE charE w.chars ++ lstE thgE w.things ++ lstE mobE w.mobs ++ lstE hseE w.houses ++ lstE lotE w.lots ++ lstE tillE w.tills
theorem charE_len (c : Chr) (h : ChrOk c) : (charE c).length ≤ 1000 := by
  have h1 := textE_len c.name
  have h2 := textE_len c.hash
  have h3 := ints_le [if c.on then 1 else 0, c.room, c.hp, c.xp, c.gold, c.bank, c.foe]
  have h4 := listE_len c.done
  have h5 := h.name
  have h6 := h.hash
  have h7 := h.many
  simp only [charE, List.length_append, List.length_cons, List.length_nil] at h3 ⊢; omega
theorem hseE_len (c : Hse) (h : HseOk c) : (hseE c).length ≤ 3000 := by
  have h1 := textE_len c.owner
  have h2 := texts_len c.guests h.guests
  have h3 := ints_le [c.room]
  have h4 := ints_le [c.chest]
  have h5 := h.owner
  have h6 := h.many
  have h7 := lenE_len 8 c.guests.length
  simp only [hseE, List.length_append, List.length_cons, List.length_nil] at h3 h4 ⊢; omega
theorem thgE_len (c : Thg) (h : ThgOk c) : (thgE c).length ≤ 1000 := by
  have h1 := textE_len c.who
  have h3 := ints_le [c.id, c.proto, c.place, c.room]
  have h5 := h.who
  simp only [thgE, List.length_append, List.length_cons, List.length_nil] at h3 ⊢; omega
theorem mobE_len (c : Mob) : (mobE c).length ≤ 1000 := by
  have h3 := ints_le [c.id, c.proto, c.room, c.hp]
  simp only [mobE, List.length_append, List.length_cons, List.length_nil] at h3 ⊢; omega
theorem lotE_len (c : Lot) (h : LotOk c) : (lotE c).length ≤ 1000 := by
  have h1 := textE_len c.seller
  have h2 := textE_len c.bidder
  have h3 := ints_le [c.id, c.thing]
  have h4 := ints_le [c.min, c.bid]
  have h6 := ints_le [c.ends]
  have h5 := h.seller
  have h7 := h.bidder
  simp only [lotE, List.length_append, List.length_cons, List.length_nil] at h3 h4 h6 ⊢; omega
theorem tillE_len (c : Till) : (tillE c).length ≤ 1000 := by
  have h3 := ints_le [c.room, c.gold]
  simp only [tillE, List.length_append, List.length_cons, List.length_nil] at h3 ⊢; omega
theorem lstE_len {α : Type} {f : α → List UInt8} {xs : List α} {N : Nat} (h : ∀ x ∈ xs, (f x).length ≤ N) : (lstE f xs).length ≤ 9 + N * xs.length := by
  have h1 := lenE_len 8 xs.length
  have h2 : (xs.flatMap f).length ≤ N * xs.length := by
    clear h1
    induction xs with
    | nil => simp
    | cons x xs ih =>
      have h3 := h x List.mem_cons_self
      have h4 := ih (fun y hy => h y (List.mem_cons_of_mem _ hy))
      simp only [List.flatMap_cons, List.length_append, List.length_cons, Nat.mul_succ]; omega
  simp only [lstE, List.length_append]; omega
theorem World_spec (d : Nat) (m : Lay) (w : Wld) (hw : WldOk w) (R : HProp) [hr : RW R d m w] (hdn : m.dn.length = w.chars.length) (hgs : m.gs.length = w.houses.length) :
    Trip Try.prog 7 [.pointer (some ⟨d, 0, none⟩)] [R] (fun v Ps => ∃ A k, v = .slice A (worldE w).length k ∧ Ps = [sl Enc.u8 5 A k (worldE w), R]) := by
  refine Trip.of (m := 202) Try.func7 rfl rfl rfl ?_
  intro o Rs
  simp only [List.cons_append, List.nil_append, enumFrom]
  haveI : Plan 3 [21, 25, 29, 35] [0, 1, 2, 3, 4, 5, 6, 7, 8, 9, 10, 11, 14, 15, 16, 17, 18, 19, 12, 13, 20, 21] := ⟨⟩
  haveI : Plan 13 [71, 73, 75, 77, 81] [0, 1, 2, 3, 4, 5, 6, 7, 8, 11, 12, 9, 10, 13, 14] := ⟨⟩
  haveI : Plan 31 [153, 155, 159] [0, 1, 2, 3, 4, 7, 8, 5, 6, 9, 10] := ⟨⟩
  haveI : Plans 32 [163, 165, 169, 172] [5, 6, 9, 12, 13] [[0, 1, 2, 3, 4, 7, 8, 10, 11, 5, 6, 9, 12, 13, 14], [0, 1, 2, 3, 4, 7, 8, 10, 11, 5, 6, 12, 9, 13, 14], [0, 1, 2, 3, 4, 7, 8, 10, 11, 5, 12, 6, 9, 13, 14], [0, 1, 2, 3, 4, 7, 8, 10, 11, 12, 5, 6, 9, 13, 14]] := ⟨⟩
  obtain ⟨w1, w2, w3, x1, x2, x3, x4, x5, x6, n1, n2, n3, n4, n5, n6⟩ := hw
  have t0 := ints_le [w.now, w.next, w.minted]
  simp only [List.length_cons, List.length_nil] at t0
  have t1 := lenE_len 8 w.chars.length
  have t2 := lenE_len 8 w.things.length
  have t3 := lenE_len 8 w.mobs.length
  have t4 := lenE_len 8 w.houses.length
  have t5 := lenE_len 8 w.lots.length
  have t6 := lenE_len 8 w.tills.length
  have F1 := fun B d => ints_nil [w.now, w.next, w.minted] (by simp only [List.forall_mem_cons]; exact ⟨w1, w2, w3, by simp⟩) (by simp) B d
  have F2 := fun A k => Len_spec w.chars.length (by omega) (([w.now, w.next, w.minted] : List Int).flatMap intE) A k (by omega)
  generalize hp0 : ([w.now, w.next, w.minted] : List Int).flatMap intE = p0 at F1 F2 t0
  refine go ?_
  refine ⟨?_, by simp⟩ <;> intros
  clear F1 F2
  have hzc : w.chars.length = (w.chars.zip m.dn).length := by simp [hdn]
  have hzh : w.houses.length = (w.houses.zip m.gs).length := by simp [hgs]
  refine loop (σ := Nat × List UInt8 × Option Addr × Nat) (fun x => x.1 ≤ w.chars.length ∧ x.2.1.length ≤ 40 + 3000 * x.1 ∧ x.2.1 ++ (w.chars.drop x.1).flatMap charE = p0 ++ lstE charE w.chars) (fun x => [(0, .pointer (some ⟨d, 0, none⟩)), (3, .slice x.2.2.1 x.2.1.length x.2.2.2), (42, .slice m.chA w.chars.length m.chC), (43, .int .i64 (w.chars.length : Int)), (44, .int .i64 (x.1 : Int))]) (fun x => sl Enc.u8 5 x.2.2.1 x.2.2.2 x.2.1 :: R :: Rs) (fun x => w.chars.length - x.1) (0, p0 ++ lenE 8 w.chars.length, _, _) ⟨Nat.zero_le _, by simp only [List.length_append]; omega, by simp only [lstE, List.drop_zero, List.append_assoc]⟩ ?_
  rintro ⟨k, b, A1, c1⟩ ⟨h1, h2, h3⟩
  simp only at h1 h2 h3 ⊢
  by_cases hk : k < w.chars.length
  · obtain ⟨c, hc⟩ : ∃ c, w.chars[k]? = some c := ⟨_, List.getElem?_eq_getElem hk⟩
    have hcm := List.mem_of_getElem? hc
    obtain ⟨h, hz, _⟩ := zip_get hc hdn
    have F1 := char_spec c (x1 c hcm) b A1 c1 (by omega) h R (hr.dn _ (List.mem_of_getElem? hz))
    have hil := charE_len c (x1 c hcm)
    rw [List.drop_eq_getElem_cons hk, (List.getElem?_eq_some_iff.1 hc).2, List.flatMap_cons] at h3
    refine go ?_
    refine ⟨?_, by simp⟩ <;> intros
    rename_i A' c'
    exact rnd (k + 1, b ++ charE c, A', c') ⟨hk, by simp only [List.length_append]; omega, by simp only; rw [List.append_assoc]; exact h3⟩ (by simp only; omega)
  · rw [List.drop_eq_nil_of_le (by omega), List.flatMap_nil, List.append_nil] at h3
    subst h3
    generalize hp1 : p0 ++ lstE charE w.chars = p1 at h2 ⊢
    have F1 := Len_spec w.things.length (by omega) p1 A1 c1 (by omega)
    refine go ?_
    refine ⟨?_, by simp⟩ <;> intros
    clear F1
    have hl1 : p1.length ≤ 60050 := by omega
    clear h1 h2 hk
    refine loop (σ := Nat × List UInt8 × Option Addr × Nat) (fun x => x.1 ≤ w.things.length ∧ x.2.1.length ≤ 60060 + 3000 * x.1 ∧ x.2.1 ++ (w.things.drop x.1).flatMap thgE = p1 ++ lstE thgE w.things) (fun x => [(0, .pointer (some ⟨d, 0, none⟩)), (3, .slice x.2.2.1 x.2.1.length x.2.2.2), (63, .slice m.thA w.things.length m.thC), (64, .int .i64 (w.things.length : Int)), (65, .int .i64 (x.1 : Int))]) (fun x => sl Enc.u8 5 x.2.2.1 x.2.2.2 x.2.1 :: R :: Rs) (fun x => w.things.length - x.1) (0, p1 ++ lenE 8 w.things.length, _, _) ⟨Nat.zero_le _, by simp only [List.length_append]; omega, by simp only [lstE, List.drop_zero, List.append_assoc]⟩ ?_
    rintro ⟨k, b, A1, c1⟩ ⟨h1, h2, h3⟩
    simp only at h1 h2 h3 ⊢
    by_cases hk : k < w.things.length
    · obtain ⟨c, hc⟩ : ∃ c, w.things[k]? = some c := ⟨_, List.getElem?_eq_getElem hk⟩
      have hcm := List.mem_of_getElem? hc
      have hok := x2 c hcm
      have F1 := fun B d => ints_spec [c.id, c.proto, c.place, c.room] (by simp only [List.forall_mem_cons]; exact ⟨hok.id, hok.proto, hok.place, hok.room, by simp⟩) (by simp) b A1 B c1 d (by omega)
      have tt := ints_le [c.id, c.proto, c.place, c.room]
      have F2 := fun A k => Text_spec c.who (by have := hok.who; omega) (b ++ ([c.id, c.proto, c.place, c.room] : List Int).flatMap intE) A k (by simp only [List.length_append, List.length_cons, List.length_nil] at tt ⊢; omega)
      have hil := thgE_len c hok
      have he : b ++ thgE c = b ++ ([c.id, c.proto, c.place, c.room] : List Int).flatMap intE ++ textE c.who := by simp only [thgE, List.append_assoc]
      rw [List.drop_eq_getElem_cons hk, (List.getElem?_eq_some_iff.1 hc).2, List.flatMap_cons] at h3
      refine go ?_
      refine ⟨?_, by simp⟩ <;> intros
      rename_i A' c'
      rw [← he]
      exact rnd (k + 1, b ++ thgE c, A', c') ⟨hk, by simp only [List.length_append]; omega, by simp only; rw [List.append_assoc]; exact h3⟩ (by simp only; omega)
    · rw [List.drop_eq_nil_of_le (by omega), List.flatMap_nil, List.append_nil] at h3
      subst h3
      generalize hp2 : p1 ++ lstE thgE w.things = p2 at h2 ⊢
      have F1 := Len_spec w.mobs.length (by omega) p2 A1 c1 (by omega)
      refine go ?_
      refine ⟨?_, by simp⟩ <;> intros
      clear F1
      have hl2 : p2.length ≤ 120070 := by omega
      clear h1 h2 hk
      refine loop (σ := Nat × List UInt8 × Option Addr × Nat) (fun x => x.1 ≤ w.mobs.length ∧ x.2.1.length ≤ 120080 + 3000 * x.1 ∧ x.2.1 ++ (w.mobs.drop x.1).flatMap mobE = p2 ++ lstE mobE w.mobs) (fun x => [(0, .pointer (some ⟨d, 0, none⟩)), (3, .slice x.2.2.1 x.2.1.length x.2.2.2), (95, .slice m.moA w.mobs.length m.moC), (96, .int .i64 (w.mobs.length : Int)), (97, .int .i64 (x.1 : Int))]) (fun x => sl Enc.u8 5 x.2.2.1 x.2.2.2 x.2.1 :: R :: Rs) (fun x => w.mobs.length - x.1) (0, p2 ++ lenE 8 w.mobs.length, _, _) ⟨Nat.zero_le _, by simp only [List.length_append]; omega, by simp only [lstE, List.drop_zero, List.append_assoc]⟩ ?_
      rintro ⟨k, b, A1, c1⟩ ⟨h1, h2, h3⟩
      simp only at h1 h2 h3 ⊢
      by_cases hk : k < w.mobs.length
      · obtain ⟨c, hc⟩ : ∃ c, w.mobs[k]? = some c := ⟨_, List.getElem?_eq_getElem hk⟩
        have hcm := List.mem_of_getElem? hc
        have hok := x3 c hcm
        have F1 := fun B d => ints_spec [c.id, c.proto, c.room, c.hp] (by simp only [List.forall_mem_cons]; exact ⟨hok.id, hok.proto, hok.room, hok.hp, by simp⟩) (by simp) b A1 B c1 d (by omega)
        have hil := mobE_len c
        rw [List.drop_eq_getElem_cons hk, (List.getElem?_eq_some_iff.1 hc).2, List.flatMap_cons] at h3
        refine go ?_
        refine ⟨?_, by simp⟩ <;> intros
        rename_i A' c'
        rw [← mobE]
        exact rnd (k + 1, b ++ mobE c, A', c') ⟨hk, by simp only [List.length_append]; omega, by simp only; rw [List.append_assoc]; exact h3⟩ (by simp only; omega)
      · rw [List.drop_eq_nil_of_le (by omega), List.flatMap_nil, List.append_nil] at h3
        subst h3
        generalize hp3 : p2 ++ lstE mobE w.mobs = p3 at h2 ⊢
        have F1 := Len_spec w.houses.length (by omega) p3 A1 c1 (by omega)
        refine go ?_
        refine ⟨?_, by simp⟩ <;> intros
        clear F1
        have hl3 : p3.length ≤ 180090 := by omega
        clear h1 h2 hk
        refine loop (σ := Nat × List UInt8 × Option Addr × Nat) (fun x => x.1 ≤ w.houses.length ∧ x.2.1.length ≤ 180100 + 3000 * x.1 ∧ x.2.1 ++ (w.houses.drop x.1).flatMap hseE = p3 ++ lstE hseE w.houses) (fun x => [(0, .pointer (some ⟨d, 0, none⟩)), (3, .slice x.2.2.1 x.2.1.length x.2.2.2), (124, .slice m.hoA w.houses.length m.hoC), (125, .int .i64 (w.houses.length : Int)), (126, .int .i64 (x.1 : Int))]) (fun x => sl Enc.u8 5 x.2.2.1 x.2.2.2 x.2.1 :: R :: Rs) (fun x => w.houses.length - x.1) (0, p3 ++ lenE 8 w.houses.length, _, _) ⟨Nat.zero_le _, by simp only [List.length_append]; omega, by simp only [lstE, List.drop_zero, List.append_assoc]⟩ ?_
        rintro ⟨k, b, A1, c1⟩ ⟨h1, h2, h3⟩
        simp only at h1 h2 h3 ⊢
        by_cases hk : k < w.houses.length
        · obtain ⟨c, hc⟩ : ∃ c, w.houses[k]? = some c := ⟨_, List.getElem?_eq_getElem hk⟩
          have hcm := List.mem_of_getElem? hc
          obtain ⟨h, hz, _⟩ := zip_get hc hgs
          have F1 := house_spec c (x4 c hcm) b A1 c1 (by omega) h R (hr.gs _ (List.mem_of_getElem? hz))
          have hil := hseE_len c (x4 c hcm)
          rw [List.drop_eq_getElem_cons hk, (List.getElem?_eq_some_iff.1 hc).2, List.flatMap_cons] at h3
          refine go ?_
          refine ⟨?_, by simp⟩ <;> intros
          rename_i A' c'
          exact rnd (k + 1, b ++ hseE c, A', c') ⟨hk, by simp only [List.length_append]; omega, by simp only; rw [List.append_assoc]; exact h3⟩ (by simp only; omega)
        · rw [List.drop_eq_nil_of_le (by omega), List.flatMap_nil, List.append_nil] at h3
          subst h3
          generalize hp4 : p3 ++ lstE hseE w.houses = p4 at h2 ⊢
          have F1 := Len_spec w.lots.length (by omega) p4 A1 c1 (by omega)
          refine go ?_
          refine ⟨?_, by simp⟩ <;> intros
          clear F1
          have hl4 : p4.length ≤ 240110 := by omega
          clear h1 h2 hk
          refine loop (σ := Nat × List UInt8 × Option Addr × Nat) (fun x => x.1 ≤ w.lots.length ∧ x.2.1.length ≤ 240120 + 3000 * x.1 ∧ x.2.1 ++ (w.lots.drop x.1).flatMap lotE = p4 ++ lstE lotE w.lots) (fun x => [(0, .pointer (some ⟨d, 0, none⟩)), (3, .slice x.2.2.1 x.2.1.length x.2.2.2), (145, .slice m.loA w.lots.length m.loC), (146, .int .i64 (w.lots.length : Int)), (147, .int .i64 (x.1 : Int))]) (fun x => sl Enc.u8 5 x.2.2.1 x.2.2.2 x.2.1 :: R :: Rs) (fun x => w.lots.length - x.1) (0, p4 ++ lenE 8 w.lots.length, _, _) ⟨Nat.zero_le _, by simp only [List.length_append]; omega, by simp only [lstE, List.drop_zero, List.append_assoc]⟩ ?_
          rintro ⟨k, b, A1, c1⟩ ⟨h1, h2, h3⟩
          simp only at h1 h2 h3 ⊢
          by_cases hk : k < w.lots.length
          · obtain ⟨c, hc⟩ : ∃ c, w.lots[k]? = some c := ⟨_, List.getElem?_eq_getElem hk⟩
            have hcm := List.mem_of_getElem? hc
            have hok := x5 c hcm
            have tt := ints_le [c.id, c.thing]
            have tu := textE_len c.seller
            have tv := ints_le [c.min, c.bid]
            have ty := textE_len c.bidder
            have s1 := hok.seller
            have s2 := hok.bidder
            simp only [List.length_cons, List.length_nil] at tt tv
            have F1 := fun B d => ints_spec [c.id, c.thing] (by simp only [List.forall_mem_cons]; exact ⟨hok.id, hok.thing, by simp⟩) (by simp) b A1 B c1 d (by omega)
            have F2 := fun A k => Text_spec c.seller (by omega) (b ++ ([c.id, c.thing] : List Int).flatMap intE) A k (by simp only [List.length_append]; omega)
            have F3 := fun A k B d => ints_spec [c.min, c.bid] (by simp only [List.forall_mem_cons]; exact ⟨hok.min, hok.bid, by simp⟩) (by simp) (b ++ ([c.id, c.thing] : List Int).flatMap intE ++ textE c.seller) A B k d (by simp only [List.length_append]; omega)
            have F4 := fun A k => Text_spec c.bidder (by omega) (b ++ ([c.id, c.thing] : List Int).flatMap intE ++ textE c.seller ++ ([c.min, c.bid] : List Int).flatMap intE) A k (by simp only [List.length_append]; omega)
            have F5 := fun A k B d => ints_spec [c.ends] (by simp only [List.forall_mem_cons]; exact ⟨hok.ends, by simp⟩) (by simp) (b ++ ([c.id, c.thing] : List Int).flatMap intE ++ textE c.seller ++ ([c.min, c.bid] : List Int).flatMap intE ++ textE c.bidder) A B k d (by simp only [List.length_append]; omega)
            have hil := lotE_len c hok
            have he : b ++ lotE c = b ++ ([c.id, c.thing] : List Int).flatMap intE ++ textE c.seller ++ ([c.min, c.bid] : List Int).flatMap intE ++ textE c.bidder ++ ([c.ends] : List Int).flatMap intE := by simp only [lotE, List.append_assoc]
            rw [List.drop_eq_getElem_cons hk, (List.getElem?_eq_some_iff.1 hc).2, List.flatMap_cons] at h3
            refine go ?_
            refine ⟨?_, ?_, ?_, ?_, by simp⟩ <;> intros
            all_goals rename_i A' c'
            all_goals rw [← he]
            all_goals exact rnd (k + 1, b ++ lotE c, A', c') ⟨hk, by simp only [List.length_append]; omega, by simp only; rw [List.append_assoc]; exact h3⟩ (by simp only; omega)
          · rw [List.drop_eq_nil_of_le (by omega), List.flatMap_nil, List.append_nil] at h3
            subst h3
            generalize hp5 : p4 ++ lstE lotE w.lots = p5 at h2 ⊢
            have F1 := Len_spec w.tills.length (by omega) p5 A1 c1 (by omega)
            refine go ?_
            refine ⟨?_, by simp⟩ <;> intros
            clear F1
            have hl5 : p5.length ≤ 300130 := by omega
            clear h1 h2 hk
            refine loop (σ := Nat × List UInt8 × Option Addr × Nat) (fun x => x.1 ≤ w.tills.length ∧ x.2.1.length ≤ 300140 + 3000 * x.1 ∧ x.2.1 ++ (w.tills.drop x.1).flatMap tillE = p5 ++ lstE tillE w.tills) (fun x => [(0, .pointer (some ⟨d, 0, none⟩)), (3, .slice x.2.2.1 x.2.1.length x.2.2.2), (187, .slice m.tiA w.tills.length m.tiC), (188, .int .i64 (w.tills.length : Int)), (189, .int .i64 (x.1 : Int))]) (fun x => sl Enc.u8 5 x.2.2.1 x.2.2.2 x.2.1 :: R :: Rs) (fun x => w.tills.length - x.1) (0, p5 ++ lenE 8 w.tills.length, _, _) ⟨Nat.zero_le _, by simp only [List.length_append]; omega, by simp only [lstE, List.drop_zero, List.append_assoc]⟩ ?_
            rintro ⟨k, b, A1, c1⟩ ⟨h1, h2, h3⟩
            simp only at h1 h2 h3 ⊢
            by_cases hk : k < w.tills.length
            · obtain ⟨c, hc⟩ : ∃ c, w.tills[k]? = some c := ⟨_, List.getElem?_eq_getElem hk⟩
              have hcm := List.mem_of_getElem? hc
              have hok := x6 c hcm
              have F1 := fun B d => ints_spec [c.room, c.gold] (by simp only [List.forall_mem_cons]; exact ⟨hok.room, hok.gold, by simp⟩) (by simp) b A1 B c1 d (by omega)
              have hil := tillE_len c
              rw [List.drop_eq_getElem_cons hk, (List.getElem?_eq_some_iff.1 hc).2, List.flatMap_cons] at h3
              refine go ?_
              refine ⟨?_, by simp⟩ <;> intros
              rename_i A' c'
              rw [← tillE]
              exact rnd (k + 1, b ++ tillE c, A', c') ⟨hk, by simp only [List.length_append]; omega, by simp only; rw [List.append_assoc]; exact h3⟩ (by simp only; omega)
            · rw [List.drop_eq_nil_of_le (by omega), List.flatMap_nil, List.append_nil] at h3
              subst h3
              refine go ?_
              refine ⟨?_, by simp⟩ <;> intros
              simp only [worldE, hp0, hp1, hp2, hp3, hp4, hp5]
              exact ret1 ⟨_, _, rfl, rfl⟩
end Go.Proofs.Ythejchmhjcfdiaa
