/-
  Characters, houses and worlds, written.
-/
import Derived.Test.YthejchmhjcfdiaaCdEqEv
import Derived.Test.YthejchmhjcfdiaaSLRes
namespace Go.Proofs.Ythejchmhjcfdiaa
open Go.SL
set_option linter.unusedVariables false
set_option linter.unusedSimpArgs false
set_option maxHeartbeats 4000000
theorem truth_spec (b : Bool) : Trip Try.prog 56 [.bool b] [] (fun v Ps => v = .int .i64 (if b then 1 else 0) ∧ Ps = []) := by
  refine Trip.of (m := 4) Try.func56 rfl rfl rfl ?_
  intro o Rs
  simp only [List.cons_append, List.nil_append, enumFrom]
  cases b
  · refine go ?_
    simp
  · refine go ?_
    simp
def OkI (n : Int) : Prop := -9223372036854775808 ≤ n ∧ n ≤ 9223372036854775807
structure ChrOk (c : Chr) : Prop where
  name : c.name.length ≤ 100
  hash : c.hash.length ≤ 100
  room : OkI c.room
  hp : OkI c.hp
  xp : OkI c.xp
  gold : OkI c.gold
  bank : OkI c.bank
  foe : OkI c.foe
  done : ∀ n ∈ c.done, OkI n
  many : c.done.length ≤ 20
structure HseOk (h : Hse) : Prop where
  room : OkI h.room
  owner : h.owner.length ≤ 100
  guests : ∀ g ∈ h.guests, g.length ≤ 100
  many : h.guests.length ≤ 20
  chest : OkI h.chest
def charE (c : Chr) : List UInt8 := textE c.name ++ textE c.hash ++ ([if c.on then 1 else 0, c.room, c.hp, c.xp, c.gold, c.bank, c.foe] : List Int).flatMap intE ++ listE c.done
def hseE (h : Hse) : List UInt8 := ([h.room] : List Int).flatMap intE ++ textE h.owner ++ lenE 8 h.guests.length ++ h.guests.flatMap textE ++ ([h.chest] : List Int).flatMap intE
theorem textE_len (s : List UInt8) : (textE s).length ≤ s.length + 9 := by have := lenE_len 8 s.length; simp only [textE, List.length_append]; omega
theorem ints_le (ns : List Int) : (ns.flatMap intE).length ≤ 9 * ns.length := by
  induction ns with
  | nil => simp
  | cons n ns ih => have := intE_len n; simp only [List.flatMap_cons, List.length_append, List.length_cons]; omega
theorem listE_len (ns : List Int) : (listE ns).length ≤ 9 + 9 * ns.length := by
  have := ints_le ns; have := lenE_len 8 ns.length; simp only [listE, List.length_append]; omega
theorem char_spec (c : Chr) (hc : ChrOk c) (l : List UInt8) (A : Option Addr) (k : Nat) (hl : l.length ≤ 700000) (h : PA) (R : HProp) (hR : Reads R E64 h.1 c.done) :
    Trip Try.prog 22 [.slice A l.length k, .agg (chrC c h).toArray] [sl Enc.u8 5 A k l, R] (fun v Ps => ∃ A' k', v = .slice A' (l ++ charE c).length k' ∧ Ps = [sl Enc.u8 5 A' k' (l ++ charE c), R]) := by
  refine Trip.of (m := 34) Try.func22 rfl rfl rfl ?_
  intro o Rs
  simp only [List.cons_append, List.nil_append, enumFrom]
  haveI : Plan 1 [7, 10] [0, 1, 2, 4, 5, 3, 6, 7] := ⟨⟩
  haveI : Plan 2 [14, 17, 19, 21, 23, 25, 27] [0, 1, 2, 4, 5, 6, 7, 8, 9, 10, 11, 12, 13, 14, 15, 3, 16, 17, 18] := ⟨⟩
  obtain ⟨n1, n2, n3, n4, n5, n6, n7, n8, n9, n10⟩ := hc
  have t1 := textE_len c.name
  have t2 := textE_len c.hash
  have F1 := Text_spec c.name (by omega) l A k (by omega)
  have F2 := fun A k => Text_spec c.hash (by omega) (l ++ textE c.name) A k (by simp only [List.length_append]; omega)
  have F3 := truth_spec c.on
  have F4 := fun A k B d => ints_spec [if c.on then 1 else 0, c.room, c.hp, c.xp, c.gold, c.bank, c.foe] (by simp only [List.forall_mem_cons]; exact ⟨by split <;> omega, n3, n4, n5, n6, n7, n8, by simp⟩) (by simp) (l ++ textE c.name ++ textE c.hash) A B k d (by simp only [List.length_append]; omega)
  have t3 := ints_le [if c.on then 1 else 0, c.room, c.hp, c.xp, c.gold, c.bank, c.foe]
  have F5 := fun A k d => list_spec c.done n9 (by omega) (l ++ textE c.name ++ textE c.hash ++ ([if c.on then 1 else 0, c.room, c.hp, c.xp, c.gold, c.bank, c.foe] : List Int).flatMap intE) A h.1 k d R hR (by simp only [List.length_append, List.length_cons, List.length_nil] at t3 ⊢; omega)
  simp only [charE, ← List.append_assoc]
  refine go ?_
  refine ⟨?_, by simp⟩ <;> intros
  exact ret1 ⟨_, _, rfl, rfl⟩
theorem texts_len : ∀ (gs : List Tx), (∀ g ∈ gs, g.length ≤ 100) → (gs.flatMap textE).length ≤ 109 * gs.length
  | [], _ => by simp
  | g :: gs, h => by
    have h1 := textE_len g
    have h2 := h g List.mem_cons_self
    have h3 := texts_len gs (fun x hx => h x (List.mem_cons_of_mem _ hx))
    simp only [List.flatMap_cons, List.length_append, List.length_cons]; omega
theorem house_spec (h : Hse) (hh : HseOk h) (l : List UInt8) (A : Option Addr) (k : Nat) (hl : l.length ≤ 700000) (g : PA) (R : HProp) (hR : Reads R Enc.str g.1 h.guests) :
    Trip Try.prog 24 [.slice A l.length k, .agg (hseC h g).toArray] [sl Enc.u8 5 A k l, R] (fun v Ps => ∃ A' k', v = .slice A' (l ++ hseE h).length k' ∧ Ps = [sl Enc.u8 5 A' k' (l ++ hseE h), R]) := by
  refine Trip.of (m := 36) Try.func24 rfl rfl rfl ?_
  intro o Rs
  simp only [List.cons_append, List.nil_append, enumFrom]
  haveI : Plan 1 [9, 13, 16] [0, 1, 2, 5, 6, 8, 9, 10, 11, 3, 4, 7, 12, 13] := ⟨⟩
  obtain ⟨n1, n2, n3, n4, n5⟩ := hh
  have t1 := textE_len h.owner
  have t0 := ints_le [h.room]
  have t2 := lenE_len 8 h.guests.length
  have t3 := texts_len h.guests n3
  have F1 := fun B d => ints_spec [h.room] (by simp; exact n1) (by simp) l A B k d (by omega)
  have F2 := fun A k => Text_spec h.owner (by omega) (l ++ ([h.room] : List Int).flatMap intE) A k (by simp only [List.length_append, List.length_singleton] at t0 ⊢; omega)
  have F3 := fun A k => Len_spec h.guests.length (by omega) (l ++ ([h.room] : List Int).flatMap intE ++ textE h.owner) A k (by simp only [List.length_append, List.length_singleton] at t0 ⊢; omega)
  simp only [hseE, ← List.append_assoc]
  generalize hp : l ++ ([h.room] : List Int).flatMap intE ++ textE h.owner = p at F2 F3 ⊢
  have hpl : p.length ≤ 700200 := by subst hp; simp only [List.length_append, List.length_singleton] at t0 ⊢; omega
  refine go ?_
  refine ⟨?_, by simp⟩ <;> intros
  rename_i bx _ _ _ _ _ A0 c0
  clear F1 F2 F3
  refine loop (σ := Nat × List UInt8 × Option Addr × Nat) (fun x => x.1 ≤ h.guests.length ∧ x.2.1.length ≤ 700300 + 109 * x.1 ∧ x.2.1 ++ (h.guests.drop x.1).flatMap textE = p ++ lenE 8 h.guests.length ++ h.guests.flatMap textE) (fun x => [(0, .slice x.2.2.1 x.2.1.length x.2.2.2), (3, .pointer (some ⟨bx, 0, none⟩)), (21, .slice g.1 h.guests.length g.2), (22, .int .i64 (h.guests.length : Int)), (23, .int .i64 (x.1 : Int))]) (fun x => sl Enc.u8 5 x.2.2.1 x.2.2.2 x.2.1 :: blk bx 64 (hseC h g) :: R :: Rs) (fun x => h.guests.length - x.1) (0, p ++ lenE 8 h.guests.length, A0, c0) ⟨by simp, by simp only [List.length_append]; omega, by simp⟩ ?_
  rintro ⟨k, b, A1, c1⟩ ⟨h1, h2, h3⟩
  simp only at h1 h2 h3 ⊢
  by_cases hk : k < h.guests.length
  · obtain ⟨s, hg⟩ : ∃ s, h.guests[k]? = some s := ⟨_, List.getElem?_eq_getElem hk⟩
    have hm := n3 s (List.mem_of_getElem? hg)
    have F1 := Text_spec s (by omega) b A1 c1 (by omega)
    have hil := textE_len s
    rw [List.drop_eq_getElem_cons hk, (List.getElem?_eq_some_iff.1 hg).2, List.flatMap_cons] at h3
    refine go ?_
    refine ⟨?_, by simp⟩ <;> intros
    rename_i A' c'
    exact rnd (k + 1, b ++ textE s, A', c') ⟨hk, by simp only [List.length_append]; omega, by simp only; rw [List.append_assoc]; exact h3⟩ (by simp only; omega)
  · rw [List.drop_eq_nil_of_le (by omega), List.flatMap_nil, List.append_nil] at h3
    subst h3
    have F1 := fun B d => ints_spec [h.chest] (by simp; exact n5) (by simp) (p ++ lenE 8 h.guests.length ++ h.guests.flatMap textE) A1 B c1 d (by simp only [List.length_append] at *; omega)
    refine go ?_
    refine ⟨?_, by simp⟩ <;> intros
    exact ret1 ⟨_, _, rfl, rfl⟩
end Go.Proofs.Ythejchmhjcfdiaa
