/-
  Characters, things, mobiles, houses, lots and tills, read.
-/
import Derived.Test.YthejchmhjcfdiaaCdRdx
namespace Go.Proofs.Ythejchmhjcfdiaa
open Go.SL
set_option linter.unusedVariables false
set_option linter.unusedSimpArgs false
set_option maxHeartbeats 4000000
section
variable (d : Nat) (R : HProp)
theorem rdThg_ok (c : Thg) (hc : ThgOk c) (r : List UInt8) (hr : r.length ≤ 800000) : Trip Try.prog 29 [.pointer (some ⟨d, 0, none⟩)] [rdx d R (thgE c ++ r) false, R] (fun v Ps => v = .agg (thgC c).toArray ∧ Ps = [rdx d R r false, R]) := by
  refine Trip.of (m := 14) Try.func29 rfl rfl rfl ?_
  intro o Rs
  simp only [List.cons_append, List.nil_append, enumFrom]
  simp only [thgE, List.flatMap_cons, List.flatMap_nil, List.append_nil, List.append_assoc]
  have F1 := Int_ok d R c.id hc.id
  have F2 := Int_ok d R c.proto hc.proto
  have F3 := Int_ok d R c.place hc.place
  have F4 := Int_ok d R c.room hc.room
  have F5 := Text_ok d R c.who r (by have := hc.who; omega) (by omega)
  refine go ?_
  simp
theorem rdMob_ok (c : Mob) (hc : MobOk c) (r : List UInt8) : Trip Try.prog 32 [.pointer (some ⟨d, 0, none⟩)] [rdx d R (mobE c ++ r) false, R] (fun v Ps => v = .agg (mobC c).toArray ∧ Ps = [rdx d R r false, R]) := by
  refine Trip.of (m := 12) Try.func32 rfl rfl rfl ?_
  intro o Rs
  simp only [List.cons_append, List.nil_append, enumFrom]
  simp only [mobE, List.flatMap_cons, List.flatMap_nil, List.append_nil, List.append_assoc]
  have F1 := Int_ok d R c.id hc.id
  have F2 := Int_ok d R c.proto hc.proto
  have F3 := Int_ok d R c.room hc.room
  have F4 := Int_ok d R c.hp hc.hp
  refine go ?_
  simp
theorem rdLot_ok (c : Lot) (hc : LotOk c) (r : List UInt8) (hr : r.length ≤ 800000) : Trip Try.prog 36 [.pointer (some ⟨d, 0, none⟩)] [rdx d R (lotE c ++ r) false, R] (fun v Ps => v = .agg (lotC c).toArray ∧ Ps = [rdx d R r false, R]) := by
  refine Trip.of (m := 18) Try.func36 rfl rfl rfl ?_
  intro o Rs
  simp only [List.cons_append, List.nil_append, enumFrom]
  have t1 := textE_len c.bidder
  have t2 := hc.bidder
  have t3 := hc.seller
  have t4 := intE_len c.min
  have t5 := intE_len c.bid
  have t6 := intE_len c.ends
  simp only [lotE, List.flatMap_cons, List.flatMap_nil, List.append_nil, List.append_assoc]
  have F1 := Int_ok d R c.id hc.id
  have F2 := Int_ok d R c.thing hc.thing
  have F3 := Text_ok d R c.seller (intE c.min ++ (intE c.bid ++ (textE c.bidder ++ (intE c.ends ++ r)))) (by omega) (by simp only [List.length_append]; omega)
  have F4 := Int_ok d R c.min hc.min
  have F5 := Int_ok d R c.bid hc.bid
  have F6 := Text_ok d R c.bidder (intE c.ends ++ r) (by omega) (by simp only [List.length_append]; omega)
  have F7 := Int_ok d R c.ends hc.ends
  refine go ?_
  simp
theorem rdTill_ok (c : Till) (hc : TillOk c) (r : List UInt8) : Trip Try.prog 38 [.pointer (some ⟨d, 0, none⟩)] [rdx d R (tillE c ++ r) false, R] (fun v Ps => v = .agg (tillC c).toArray ∧ Ps = [rdx d R r false, R]) := by
  refine Trip.of (m := 8) Try.func38 rfl rfl rfl ?_
  intro o Rs
  simp only [List.cons_append, List.nil_append, enumFrom]
  simp only [tillE, List.flatMap_cons, List.flatMap_nil, List.append_nil, List.append_assoc]
  have F1 := Int_ok d R c.room hc.room
  have F2 := Int_ok d R c.gold hc.gold
  refine go ?_
  simp
theorem rdChr_ok (c : Chr) (hc : ChrOk c) (r : List UInt8) (hr : r.length ≤ 800000) : Trip Try.prog 27 [.pointer (some ⟨d, 0, none⟩)] [rdx d R (charE c ++ r) false, R] (fun v Ps => ∃ B m, v = .agg (chrC c (B, m)).toArray ∧ Ps = [rdx d R r false, R, sl E64 3 B m c.done]) := by
  refine Trip.of (m := 27) Try.func27 rfl rfl rfl ?_
  intro o Rs
  simp only [List.cons_append, List.nil_append, enumFrom]
  obtain ⟨n1, n2, n3, n4, n5, n6, n7, n8, n9, n10⟩ := hc
  have t1 := textE_len c.hash
  have t2 := ints_le [if c.on then 1 else 0, c.room, c.hp, c.xp, c.gold, c.bank, c.foe]
  have t3 := listE_len c.done
  have F1 := Text_ok d R c.name (textE c.hash ++ (([if c.on then 1 else 0, c.room, c.hp, c.xp, c.gold, c.bank, c.foe] : List Int).flatMap intE ++ (listE c.done ++ r))) (by omega) (by simp only [List.length_append, List.length_cons, List.length_nil] at t2 ⊢; omega)
  have F2 := Text_ok d R c.hash (([if c.on then 1 else 0, c.room, c.hp, c.xp, c.gold, c.bank, c.foe] : List Int).flatMap intE ++ (listE c.done ++ r)) (by omega) (by simp only [List.length_append, List.length_cons, List.length_nil] at t2 ⊢; omega)
  simp only [charE, List.flatMap_cons, List.flatMap_nil, List.append_nil, List.append_assoc] at F1 F2 ⊢
  have F3 := yes_ok d R c.on
  have F4 := Int_ok d R c.room n3
  have F5 := Int_ok d R c.hp n4
  have F6 := Int_ok d R c.xp n5
  have F7 := Int_ok d R c.gold n6
  have F8 := Int_ok d R c.bank n7
  have F9 := Int_ok d R c.foe n8
  have F10 := numbers_ok d R c.done n9 (by omega) r (by omega)
  refine go ?_
  refine ⟨?_, by simp⟩ <;> intros
  exact retca (cs := chrC c (_, _)) ⟨_, _, rfl, rfl⟩
theorem rdHse_ok (c : Hse) (hc : HseOk c) (r : List UInt8) (hr : r.length ≤ 800000) : Trip Try.prog 34 [.pointer (some ⟨d, 0, none⟩)] [rdx d R (hseE c ++ r) false, R] (fun v Ps => ∃ B m, v = .agg (hseC c (B, m)).toArray ∧ Ps = [rdx d R r false, R, sl Enc.str 9 B m c.guests]) := by
  refine Trip.of (m := 25) Try.func34 rfl rfl rfl ?_
  intro o Rs
  simp only [List.cons_append, List.nil_append, enumFrom]
  haveI : Plan 4 [14] [0, 1, 2, 3, 4, 5, 6, 7] := ⟨⟩
  obtain ⟨n1, n2, n3, n4, n5⟩ := hc
  have t1 := texts_len c.guests n3
  have t2 := lenE_len 8 c.guests.length
  have t4 := intE_len c.chest
  have t5 : c.guests.length ≤ (c.guests.flatMap textE).length := by
    clear n3 n4 t1 t2
    induction c.guests with
    | nil => simp
    | cons s l ih => simp only [List.flatMap_cons, List.length_append, List.length_cons, textE]; have := lenE_pos s.length; omega
  simp only [hseE, List.flatMap_cons, List.flatMap_nil, List.append_nil, List.append_assoc]
  have F1 := Int_ok d R c.room n1
  have F2 := Text_ok d R c.owner (lenE 8 c.guests.length ++ (c.guests.flatMap textE ++ (intE c.chest ++ r))) (by omega) (by simp only [List.length_append]; omega)
  have F3 := Count_ok d R c.guests.length (c.guests.flatMap textE ++ (intE c.chest ++ r)) (by simp only [List.length_append]; omega) (by simp only [List.length_append]; omega)
  refine go ?_
  refine ⟨?_, by simp⟩ <;> intros
  rename_i b2 b3
  clear F1 F2 F3
  refine loop (σ := Nat × Option Addr × Nat) (fun x => x.1 ≤ c.guests.length) (fun x => [(0, .pointer (some ⟨d, 0, none⟩)), (2, .pointer (some ⟨b2, 0, none⟩)), (3, .pointer (some ⟨b3, 0, none⟩)), (10, .int .i64 (c.guests.length : Int)), (11, .int .i64 (x.1 : Int))]) (fun x => rdx d R ((c.guests.drop x.1).flatMap textE ++ (intE c.chest ++ r)) false :: R :: blk b3 64 [.int .i64 c.room, str c.owner, .slice x.2.1 (c.guests.take x.1).length x.2.2, .int .i64 0] :: blk b2 64 [.int .i64 0, str [], .slice none 0 0, .int .i64 0] :: sl Enc.str 9 x.2.1 x.2.2 (c.guests.take x.1) :: Rs) (fun x => c.guests.length - x.1) (0, none, 0) (Nat.zero_le _) ?_
  rintro ⟨k, A1, c1⟩ h1
  simp only at h1 ⊢
  by_cases hk : k < c.guests.length
  · obtain ⟨g, hg⟩ : ∃ g, c.guests[k]? = some g := ⟨_, List.getElem?_eq_getElem hk⟩
    have hgl := n3 g (List.mem_of_getElem? hg)
    have e1 : c.guests.take k ++ [g] = c.guests.take (k + 1) := by rw [List.take_add_one, hg]; rfl
    have hd := texts_len (c.guests.drop (k + 1)) (fun x hx => n3 x (List.mem_of_mem_drop hx))
    rw [List.length_drop] at hd
    have F1 := Text_ok d R g ((c.guests.drop (k + 1)).flatMap textE ++ (intE c.chest ++ r)) (by omega) (by simp only [List.length_append]; omega)
    rw [List.drop_eq_getElem_cons hk, (List.getElem?_eq_some_iff.1 hg).2, List.flatMap_cons, List.append_assoc]
    refine go ?_
    refine ⟨?_, by simp⟩ <;> intros
    rename_i A' c'
    rw [e1]
    exact rnd (k + 1, A', c') (by simp only; omega) (by simp only; omega)
  · rw [List.take_of_length_le (by omega), List.drop_eq_nil_of_le (by omega), List.flatMap_nil, List.nil_append]
    have F1 := Int_ok d R c.chest n5 r
    refine go ?_
    refine ⟨?_, by simp⟩ <;> intros
    exact retca (cs := hseC c (_, _)) ⟨_, _, rfl, rfl⟩
end
end Go.Proofs.Ythejchmhjcfdiaa
