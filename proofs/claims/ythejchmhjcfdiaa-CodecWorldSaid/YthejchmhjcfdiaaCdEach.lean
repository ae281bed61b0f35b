/-
  Lists of rows, read.
-/
import Derived.Test.YthejchmhjcfdiaaCdRd2
import Derived.Test.YthejchmhjcfdiaaWoCopy
namespace Go.Proofs.Ythejchmhjcfdiaa
open Go.SL
set_option linter.unusedVariables false
set_option linter.unusedSimpArgs false
set_option maxHeartbeats 4000000




theorem many_len {α : Type} {f : α → List UInt8} {xs : List α} {N : Nat} (h : ∀ x ∈ xs, (f x).length ≤ N) : (xs.flatMap f).length ≤ N * xs.length := by
  induction xs with
  | nil => simp
  | cons x xs ih =>
    have h3 := h x List.mem_cons_self
    have h4 := ih (fun y hy => h y (List.mem_cons_of_mem _ hy))
    simp only [List.flatMap_cons, List.length_append, List.length_cons, Nat.mul_succ]; omega
theorem many_pos {α : Type} {f : α → List UInt8} {xs : List α} (h : ∀ x, 1 ≤ (f x).length) : xs.length ≤ (xs.flatMap f).length := by
  induction xs with
  | nil => simp
  | cons x xs ih => have := h x; simp only [List.flatMap_cons, List.length_append, List.length_cons]; omega
theorem thgE_pos (c : Thg) : 1 ≤ (thgE c).length := by have := lenE_pos c.who.length; simp only [thgE, textE, List.length_append]; omega
theorem mobE_pos (c : Mob) : 1 ≤ (mobE c).length := by have := intE_pos c.id; simp only [mobE, List.flatMap_cons, List.length_append]; omega
theorem lotE_pos (c : Lot) : 1 ≤ (lotE c).length := by have := lenE_pos c.seller.length; simp only [lotE, textE, List.length_append]; omega
theorem tillE_pos (c : Till) : 1 ≤ (tillE c).length := by have := intE_pos c.room; simp only [tillE, List.flatMap_cons, List.length_append]; omega
theorem charE_pos (c : Chr) : 1 ≤ (charE c).length := by have := lenE_pos c.name.length; simp only [charE, textE, List.length_append]; omega
theorem hseE_pos (c : Hse) : 1 ≤ (hseE c).length := by have := lenE_pos c.owner.length; simp only [hseE, textE, List.length_append]; omega
section
variable (d : Nat) (R : HProp)
theorem eachThg_ok (ys : List Thg) (hy : ∀ y ∈ ys, ThgOk y) (hl : ys.length ≤ 20) (r : List UInt8) (hr : r.length ≤ 700000) : Trip Try.prog 28 [.pointer (some ⟨d, 0, none⟩), .func (.func 29) #[] #[]] [rdx d R (lstE thgE ys ++ r) false, R]
    (fun v Ps => ∃ A c, v = .slice A ys.length c ∧ Ps = [rdx d R r false, R, sl Et 60 A c ys]) := by
  refine Trip.of (m := 22) Try.func28 rfl rfl rfl ?_
  intro o Rs
  simp only [List.cons_append, List.nil_append, enumFrom]
  have hb := many_len (f := thgE) (xs := ys) (N := 3000) (fun y hm => (Nat.le_trans (thgE_len y (hy y hm)) (by decide)))
  have hp := many_pos (f := thgE) (xs := ys) thgE_pos
  have F1 := Count_ok d R ys.length (ys.flatMap thgE ++ r) (by simp only [List.length_append]; omega) (by simp only [List.length_append]; omega)
  simp only [lstE, List.append_assoc]
  refine go ?_
  refine ⟨?_, by simp⟩ <;> intros
  clear F1
  refine loop (σ := Nat × Option Addr × Nat) (fun x => x.1 ≤ ys.length) (fun x => [(0, .pointer (some ⟨d, 0, none⟩)), (1, .func (.func 29) #[] #[]), (5, .slice x.2.1 (ys.take x.1).length x.2.2), (7, .int .i64 (ys.length : Int)), (8, .int .i64 (x.1 : Int))]) (fun x => rdx d R ((ys.drop x.1).flatMap thgE ++ r) false :: R :: sl Et 60 x.2.1 x.2.2 (ys.take x.1) :: Rs) (fun x => ys.length - x.1) (0, none, 0) (Nat.zero_le _) ?_
  rintro ⟨k, A1, c1⟩ h1
  simp only at h1 ⊢
  by_cases hk : k < ys.length
  · obtain ⟨c, hc⟩ : ∃ c, ys[k]? = some c := ⟨_, List.getElem?_eq_getElem hk⟩
    have hcm := List.mem_of_getElem? hc
    have e1 : ys.take k ++ [c] = ys.take (k + 1) := by rw [List.take_add_one, hc]; rfl
    have hd := many_len (f := thgE) (xs := ys.drop (k + 1)) (N := 3000) (fun y hm => by have hm := List.mem_of_mem_drop hm; exact (Nat.le_trans (thgE_len y (hy y hm)) (by decide)))
    rw [List.length_drop] at hd
    have F1 := rdThg_ok d R c (hy c hcm) ((ys.drop (k + 1)).flatMap thgE ++ r) (by simp only [List.length_append]; omega)
    rw [List.drop_eq_getElem_cons hk, (List.getElem?_eq_some_iff.1 hc).2, List.flatMap_cons, List.append_assoc]
    refine go ?_
    refine ⟨?_, by simp⟩ <;> intros
    rename_i A' c'
    rw [e1]
    exact rnd (k + 1, A', c') (by simp only; omega) (by simp only; omega)
  · rw [List.take_of_length_le (by omega), List.drop_eq_nil_of_le (by omega), List.flatMap_nil, List.nil_append]
    refine go ?_
    refine ⟨?_, by simp⟩ <;> intros
    exact ret1 ⟨_, _, rfl, rfl⟩
theorem eachMob_ok (ys : List Mob) (hy : ∀ y ∈ ys, MobOk y) (hl : ys.length ≤ 20) (r : List UInt8) (hr : r.length ≤ 700000) : Trip Try.prog 31 [.pointer (some ⟨d, 0, none⟩), .func (.func 32) #[] #[]] [rdx d R (lstE mobE ys ++ r) false, R]
    (fun v Ps => ∃ A c, v = .slice A ys.length c ∧ Ps = [rdx d R r false, R, sl Em 51 A c ys]) := by
  refine Trip.of (m := 22) Try.func31 rfl rfl rfl ?_
  intro o Rs
  simp only [List.cons_append, List.nil_append, enumFrom]
  have hb := many_len (f := mobE) (xs := ys) (N := 3000) (fun y hm => (Nat.le_trans (mobE_len y) (by decide)))
  have hp := many_pos (f := mobE) (xs := ys) mobE_pos
  have F1 := Count_ok d R ys.length (ys.flatMap mobE ++ r) (by simp only [List.length_append]; omega) (by simp only [List.length_append]; omega)
  simp only [lstE, List.append_assoc]
  refine go ?_
  refine ⟨?_, by simp⟩ <;> intros
  clear F1
  refine loop (σ := Nat × Option Addr × Nat) (fun x => x.1 ≤ ys.length) (fun x => [(0, .pointer (some ⟨d, 0, none⟩)), (1, .func (.func 32) #[] #[]), (5, .slice x.2.1 (ys.take x.1).length x.2.2), (7, .int .i64 (ys.length : Int)), (8, .int .i64 (x.1 : Int))]) (fun x => rdx d R ((ys.drop x.1).flatMap mobE ++ r) false :: R :: sl Em 51 x.2.1 x.2.2 (ys.take x.1) :: Rs) (fun x => ys.length - x.1) (0, none, 0) (Nat.zero_le _) ?_
  rintro ⟨k, A1, c1⟩ h1
  simp only at h1 ⊢
  by_cases hk : k < ys.length
  · obtain ⟨c, hc⟩ : ∃ c, ys[k]? = some c := ⟨_, List.getElem?_eq_getElem hk⟩
    have hcm := List.mem_of_getElem? hc
    have e1 : ys.take k ++ [c] = ys.take (k + 1) := by rw [List.take_add_one, hc]; rfl
    have hd := many_len (f := mobE) (xs := ys.drop (k + 1)) (N := 3000) (fun y hm => by have hm := List.mem_of_mem_drop hm; exact (Nat.le_trans (mobE_len y) (by decide)))
    rw [List.length_drop] at hd
    have F1 := (fun d R c hc r (_ : r.length ≤ 800000) => rdMob_ok d R c hc r) d R c (hy c hcm) ((ys.drop (k + 1)).flatMap mobE ++ r) (by simp only [List.length_append]; omega)
    rw [List.drop_eq_getElem_cons hk, (List.getElem?_eq_some_iff.1 hc).2, List.flatMap_cons, List.append_assoc]
    refine go ?_
    refine ⟨?_, by simp⟩ <;> intros
    rename_i A' c'
    rw [e1]
    exact rnd (k + 1, A', c') (by simp only; omega) (by simp only; omega)
  · rw [List.take_of_length_le (by omega), List.drop_eq_nil_of_le (by omega), List.flatMap_nil, List.nil_append]
    refine go ?_
    refine ⟨?_, by simp⟩ <;> intros
    exact ret1 ⟨_, _, rfl, rfl⟩
theorem eachLot_ok (ys : List Lot) (hy : ∀ y ∈ ys, LotOk y) (hl : ys.length ≤ 20) (r : List UInt8) (hr : r.length ≤ 700000) : Trip Try.prog 35 [.pointer (some ⟨d, 0, none⟩), .func (.func 36) #[] #[]] [rdx d R (lstE lotE ys ++ r) false, R]
    (fun v Ps => ∃ A c, v = .slice A ys.length c ∧ Ps = [rdx d R r false, R, sl El 66 A c ys]) := by
  refine Trip.of (m := 22) Try.func35 rfl rfl rfl ?_
  intro o Rs
  simp only [List.cons_append, List.nil_append, enumFrom]
  have hb := many_len (f := lotE) (xs := ys) (N := 3000) (fun y hm => (Nat.le_trans (lotE_len y (hy y hm)) (by decide)))
  have hp := many_pos (f := lotE) (xs := ys) lotE_pos
  have F1 := Count_ok d R ys.length (ys.flatMap lotE ++ r) (by simp only [List.length_append]; omega) (by simp only [List.length_append]; omega)
  simp only [lstE, List.append_assoc]
  refine go ?_
  refine ⟨?_, by simp⟩ <;> intros
  clear F1
  refine loop (σ := Nat × Option Addr × Nat) (fun x => x.1 ≤ ys.length) (fun x => [(0, .pointer (some ⟨d, 0, none⟩)), (1, .func (.func 36) #[] #[]), (5, .slice x.2.1 (ys.take x.1).length x.2.2), (7, .int .i64 (ys.length : Int)), (8, .int .i64 (x.1 : Int))]) (fun x => rdx d R ((ys.drop x.1).flatMap lotE ++ r) false :: R :: sl El 66 x.2.1 x.2.2 (ys.take x.1) :: Rs) (fun x => ys.length - x.1) (0, none, 0) (Nat.zero_le _) ?_
  rintro ⟨k, A1, c1⟩ h1
  simp only at h1 ⊢
  by_cases hk : k < ys.length
  · obtain ⟨c, hc⟩ : ∃ c, ys[k]? = some c := ⟨_, List.getElem?_eq_getElem hk⟩
    have hcm := List.mem_of_getElem? hc
    have e1 : ys.take k ++ [c] = ys.take (k + 1) := by rw [List.take_add_one, hc]; rfl
    have hd := many_len (f := lotE) (xs := ys.drop (k + 1)) (N := 3000) (fun y hm => by have hm := List.mem_of_mem_drop hm; exact (Nat.le_trans (lotE_len y (hy y hm)) (by decide)))
    rw [List.length_drop] at hd
    have F1 := rdLot_ok d R c (hy c hcm) ((ys.drop (k + 1)).flatMap lotE ++ r) (by simp only [List.length_append]; omega)
    rw [List.drop_eq_getElem_cons hk, (List.getElem?_eq_some_iff.1 hc).2, List.flatMap_cons, List.append_assoc]
    refine go ?_
    refine ⟨?_, by simp⟩ <;> intros
    rename_i A' c'
    rw [e1]
    exact rnd (k + 1, A', c') (by simp only; omega) (by simp only; omega)
  · rw [List.take_of_length_le (by omega), List.drop_eq_nil_of_le (by omega), List.flatMap_nil, List.nil_append]
    refine go ?_
    refine ⟨?_, by simp⟩ <;> intros
    exact ret1 ⟨_, _, rfl, rfl⟩
theorem eachTill_ok (ys : List Till) (hy : ∀ y ∈ ys, TillOk y) (hl : ys.length ≤ 20) (r : List UInt8) (hr : r.length ≤ 700000) : Trip Try.prog 37 [.pointer (some ⟨d, 0, none⟩), .func (.func 38) #[] #[]] [rdx d R (lstE tillE ys ++ r) false, R]
    (fun v Ps => ∃ A c, v = .slice A ys.length c ∧ Ps = [rdx d R r false, R, sl Ei 74 A c ys]) := by
  refine Trip.of (m := 22) Try.func37 rfl rfl rfl ?_
  intro o Rs
  simp only [List.cons_append, List.nil_append, enumFrom]
  have hb := many_len (f := tillE) (xs := ys) (N := 3000) (fun y hm => (Nat.le_trans (tillE_len y) (by decide)))
  have hp := many_pos (f := tillE) (xs := ys) tillE_pos
  have F1 := Count_ok d R ys.length (ys.flatMap tillE ++ r) (by simp only [List.length_append]; omega) (by simp only [List.length_append]; omega)
  simp only [lstE, List.append_assoc]
  refine go ?_
  refine ⟨?_, by simp⟩ <;> intros
  clear F1
  refine loop (σ := Nat × Option Addr × Nat) (fun x => x.1 ≤ ys.length) (fun x => [(0, .pointer (some ⟨d, 0, none⟩)), (1, .func (.func 38) #[] #[]), (5, .slice x.2.1 (ys.take x.1).length x.2.2), (7, .int .i64 (ys.length : Int)), (8, .int .i64 (x.1 : Int))]) (fun x => rdx d R ((ys.drop x.1).flatMap tillE ++ r) false :: R :: sl Ei 74 x.2.1 x.2.2 (ys.take x.1) :: Rs) (fun x => ys.length - x.1) (0, none, 0) (Nat.zero_le _) ?_
  rintro ⟨k, A1, c1⟩ h1
  simp only at h1 ⊢
  by_cases hk : k < ys.length
  · obtain ⟨c, hc⟩ : ∃ c, ys[k]? = some c := ⟨_, List.getElem?_eq_getElem hk⟩
    have hcm := List.mem_of_getElem? hc
    have e1 : ys.take k ++ [c] = ys.take (k + 1) := by rw [List.take_add_one, hc]; rfl
    have hd := many_len (f := tillE) (xs := ys.drop (k + 1)) (N := 3000) (fun y hm => by have hm := List.mem_of_mem_drop hm; exact (Nat.le_trans (tillE_len y) (by decide)))
    rw [List.length_drop] at hd
    have F1 := (fun d R c hc r (_ : r.length ≤ 800000) => rdTill_ok d R c hc r) d R c (hy c hcm) ((ys.drop (k + 1)).flatMap tillE ++ r) (by simp only [List.length_append]; omega)
    rw [List.drop_eq_getElem_cons hk, (List.getElem?_eq_some_iff.1 hc).2, List.flatMap_cons, List.append_assoc]
    refine go ?_
    refine ⟨?_, by simp⟩ <;> intros
    rename_i A' c'
    rw [e1]
    exact rnd (k + 1, A', c') (by simp only; omega) (by simp only; omega)
  · rw [List.take_of_length_le (by omega), List.drop_eq_nil_of_le (by omega), List.flatMap_nil, List.nil_append]
    refine go ?_
    refine ⟨?_, by simp⟩ <;> intros
    exact ret1 ⟨_, _, rfl, rfl⟩
theorem eachChr_ok (ys : List Chr) (hy : ∀ y ∈ ys, ChrOk y) (hl : ys.length ≤ 20) (r : List UInt8) (hr : r.length ≤ 700000) : Trip Try.prog 26 [.pointer (some ⟨d, 0, none⟩), .func (.func 27) #[] #[]] [rdx d R (lstE charE ys ++ r) false, R]
    (fun v Ps => ∃ A c, ∃ hs : List PA, hs.length = ys.length ∧ v = .slice A ys.length c ∧ Ps = [rdx d R r false, R, sl Ec 57 A c (ys.zip hs), nest E64 3 ((ys.zip hs).map fun p => (p.1.done, p.2))]) := by
  refine Trip.of (m := 22) Try.func26 rfl rfl rfl ?_
  intro o Rs
  simp only [List.cons_append, List.nil_append, enumFrom]
  have hb := many_len (f := charE) (xs := ys) (N := 3000) (fun y hm => (Nat.le_trans (charE_len y (hy y hm)) (by decide)))
  have hp := many_pos (f := charE) (xs := ys) charE_pos
  have F1 := Count_ok d R ys.length (ys.flatMap charE ++ r) (by simp only [List.length_append]; omega) (by simp only [List.length_append]; omega)
  simp only [lstE, List.append_assoc]
  refine go ?_
  refine ⟨?_, by simp⟩ <;> intros
  clear F1
  refine C.turn (fun w hw => nest_nil (E := E64) (e := 3) hw) ?_
  refine loop (σ := Nat × (Option Addr × Nat) × List PA) (fun x => x.1 ≤ ys.length ∧ x.2.2.length = x.1) (fun x => [(0, .pointer (some ⟨d, 0, none⟩)), (1, .func (.func 27) #[] #[]), (5, .slice x.2.1.1 ((ys.take x.1).zip x.2.2).length x.2.1.2), (7, .int .i64 (ys.length : Int)), (8, .int .i64 (x.1 : Int))]) (fun x => rdx d R ((ys.drop x.1).flatMap charE ++ r) false :: R :: sl Ec 57 x.2.1.1 x.2.1.2 ((ys.take x.1).zip x.2.2) :: nest E64 3 (((ys.take x.1).zip x.2.2).map fun p => (p.1.done, p.2)) :: Rs) (fun x => ys.length - x.1) (0, (none, 0), []) ⟨Nat.zero_le _, rfl⟩ ?_
  rintro ⟨k, ⟨A1, c1⟩, hs⟩ ⟨h1, h2⟩
  simp only at h1 h2 ⊢
  by_cases hk : k < ys.length
  · obtain ⟨c, hc⟩ : ∃ c, ys[k]? = some c := ⟨_, List.getElem?_eq_getElem hk⟩
    have hcm := List.mem_of_getElem? hc
    have htk : (ys.take k).length = hs.length := by rw [List.length_take]; omega
    have e1 : ∀ h : PA, (ys.take k).zip hs ++ [(c, h)] = (ys.take (k + 1)).zip (hs ++ [h]) := fun h => by
      rw [List.take_add_one, hc, Option.toList_some, List.zip_append htk]; rfl
    have hzl : ((ys.take k).zip hs).length = k := by rw [List.length_zip]; omega
    have hd := many_len (f := charE) (xs := ys.drop (k + 1)) (N := 3000) (fun y hm => by have hm := List.mem_of_mem_drop hm; exact (Nat.le_trans (charE_len y (hy y hm)) (by decide)))
    rw [List.length_drop] at hd
    have L1 := rdChr_ok d R c (hy c hcm) ((ys.drop (k + 1)).flatMap charE ++ r) (by simp only [List.length_append]; omega)
    rw [List.drop_eq_getElem_cons hk, (List.getElem?_eq_some_iff.1 hc).2, List.flatMap_cons, List.append_assoc]
    refine go ?_
    refine ⟨?_, by simp⟩ <;> intros
    refine W.callv rfl rfl (by exact rfl) (by (focus ((repeat (first | exact Ent.done | with_reducible exact Ent.same | (apply Ent.take; (first | (focus (with_reducible iterate 40 first | done | exact .here | apply Find.there); done) | (focus (iterate 40 first | done | exact .here | apply Find.there); done))) | (apply Ent.emp (sl_emp _ _)) | apply Ent.drop)); first | done | fail))) rfl (by (first | exact Keep.nil | (focus ((repeat (first | exact Incl.nil | (apply Incl.cons; (focus (with_reducible iterate 40 first | done | exact .here | apply Find.there); done)))); first | done | fail)) | exact Keep.free rfl | (focus (apply Keep.incl; (repeat (first | exact Incl.nil | (apply Incl.cons; (focus (with_reducible iterate 40 first | done | exact .here | apply Find.there); done)))); first | done | fail)))) L1 ?_
    rintro _ _ ⟨B, m, rfl, rfl⟩
    simp only [List.cons_append, List.nil_append]
    refine W.two (by (focus (with_reducible iterate 40 first | done | exact .here | apply Find.there); done)) (by (focus (with_reducible iterate 40 first | done | exact .here | apply Find.there); done)) (fun w hw => nest_snoc (p := (c.done, (B, m))) (E := E64) (e := 3) hw) ?_
    refine go ?_
    refine ⟨?_, by simp⟩ <;> intros
    rename_i A' c'
    have e2 : (List.map (fun p => (p.1.done, p.2)) ((ys.take k).zip hs) ++ [(c.done, (B, m))]) = List.map (fun p : Chr × PA => (p.1.done, p.2)) ((ys.take (k + 1)).zip (hs ++ [(B, m)])) := by rw [← e1, List.map_append]; rfl
    rw [e2, e1]
    exact rnd (k + 1, (A', c'), hs ++ [(B, m)]) ⟨by simp only; omega, by simp only [List.length_append, List.length_singleton]; omega⟩ (by simp only; omega)
  · rw [List.take_of_length_le (by omega), List.drop_eq_nil_of_le (by omega), List.flatMap_nil, List.nil_append]
    have hzl : (ys.zip hs).length = ys.length := by rw [List.length_zip]; omega
    refine go ?_
    refine ⟨?_, by simp⟩ <;> intros
    rw [hzl]
    exact ret1 ⟨_, _, hs, by omega, rfl, rfl⟩
theorem eachHse_ok (ys : List Hse) (hy : ∀ y ∈ ys, HseOk y) (hl : ys.length ≤ 20) (r : List UInt8) (hr : r.length ≤ 700000) : Trip Try.prog 33 [.pointer (some ⟨d, 0, none⟩), .func (.func 34) #[] #[]] [rdx d R (lstE hseE ys ++ r) false, R]
    (fun v Ps => ∃ A c, ∃ hs : List PA, hs.length = ys.length ∧ v = .slice A ys.length c ∧ Ps = [rdx d R r false, R, sl Eh 64 A c (ys.zip hs), nest Enc.str 9 ((ys.zip hs).map fun p => (p.1.guests, p.2))]) := by
  refine Trip.of (m := 22) Try.func33 rfl rfl rfl ?_
  intro o Rs
  simp only [List.cons_append, List.nil_append, enumFrom]
  have hb := many_len (f := hseE) (xs := ys) (N := 3000) (fun y hm => (hseE_len y (hy y hm)))
  have hp := many_pos (f := hseE) (xs := ys) hseE_pos
  have F1 := Count_ok d R ys.length (ys.flatMap hseE ++ r) (by simp only [List.length_append]; omega) (by simp only [List.length_append]; omega)
  simp only [lstE, List.append_assoc]
  refine go ?_
  refine ⟨?_, by simp⟩ <;> intros
  clear F1
  refine C.turn (fun w hw => nest_nil (E := Enc.str) (e := 9) hw) ?_
  refine loop (σ := Nat × (Option Addr × Nat) × List PA) (fun x => x.1 ≤ ys.length ∧ x.2.2.length = x.1) (fun x => [(0, .pointer (some ⟨d, 0, none⟩)), (1, .func (.func 34) #[] #[]), (5, .slice x.2.1.1 ((ys.take x.1).zip x.2.2).length x.2.1.2), (7, .int .i64 (ys.length : Int)), (8, .int .i64 (x.1 : Int))]) (fun x => rdx d R ((ys.drop x.1).flatMap hseE ++ r) false :: R :: sl Eh 64 x.2.1.1 x.2.1.2 ((ys.take x.1).zip x.2.2) :: nest Enc.str 9 (((ys.take x.1).zip x.2.2).map fun p => (p.1.guests, p.2)) :: Rs) (fun x => ys.length - x.1) (0, (none, 0), []) ⟨Nat.zero_le _, rfl⟩ ?_
  rintro ⟨k, ⟨A1, c1⟩, hs⟩ ⟨h1, h2⟩
  simp only at h1 h2 ⊢
  by_cases hk : k < ys.length
  · obtain ⟨c, hc⟩ : ∃ c, ys[k]? = some c := ⟨_, List.getElem?_eq_getElem hk⟩
    have hcm := List.mem_of_getElem? hc
    have htk : (ys.take k).length = hs.length := by rw [List.length_take]; omega
    have e1 : ∀ h : PA, (ys.take k).zip hs ++ [(c, h)] = (ys.take (k + 1)).zip (hs ++ [h]) := fun h => by
      rw [List.take_add_one, hc, Option.toList_some, List.zip_append htk]; rfl
    have hzl : ((ys.take k).zip hs).length = k := by rw [List.length_zip]; omega
    have hd := many_len (f := hseE) (xs := ys.drop (k + 1)) (N := 3000) (fun y hm => by have hm := List.mem_of_mem_drop hm; exact (hseE_len y (hy y hm)))
    rw [List.length_drop] at hd
    have L1 := rdHse_ok d R c (hy c hcm) ((ys.drop (k + 1)).flatMap hseE ++ r) (by simp only [List.length_append]; omega)
    rw [List.drop_eq_getElem_cons hk, (List.getElem?_eq_some_iff.1 hc).2, List.flatMap_cons, List.append_assoc]
    refine go ?_
    refine ⟨?_, by simp⟩ <;> intros
    refine W.callv rfl rfl (by exact rfl) (by (focus ((repeat (first | exact Ent.done | with_reducible exact Ent.same | (apply Ent.take; (first | (focus (with_reducible iterate 40 first | done | exact .here | apply Find.there); done) | (focus (iterate 40 first | done | exact .here | apply Find.there); done))) | (apply Ent.emp (sl_emp _ _)) | apply Ent.drop)); first | done | fail))) rfl (by (first | exact Keep.nil | (focus ((repeat (first | exact Incl.nil | (apply Incl.cons; (focus (with_reducible iterate 40 first | done | exact .here | apply Find.there); done)))); first | done | fail)) | exact Keep.free rfl | (focus (apply Keep.incl; (repeat (first | exact Incl.nil | (apply Incl.cons; (focus (with_reducible iterate 40 first | done | exact .here | apply Find.there); done)))); first | done | fail)))) L1 ?_
    rintro _ _ ⟨B, m, rfl, rfl⟩
    simp only [List.cons_append, List.nil_append]
    refine W.two (by (focus (with_reducible iterate 40 first | done | exact .here | apply Find.there); done)) (by (focus (with_reducible iterate 40 first | done | exact .here | apply Find.there); done)) (fun w hw => nest_snoc (p := (c.guests, (B, m))) (E := Enc.str) (e := 9) hw) ?_
    refine go ?_
    refine ⟨?_, by simp⟩ <;> intros
    rename_i A' c'
    have e2 : (List.map (fun p => (p.1.guests, p.2)) ((ys.take k).zip hs) ++ [(c.guests, (B, m))]) = List.map (fun p : Hse × PA => (p.1.guests, p.2)) ((ys.take (k + 1)).zip (hs ++ [(B, m)])) := by rw [← e1, List.map_append]; rfl
    rw [e2, e1]
    exact rnd (k + 1, (A', c'), hs ++ [(B, m)]) ⟨by simp only; omega, by simp only [List.length_append, List.length_singleton]; omega⟩ (by simp only; omega)
  · rw [List.take_of_length_le (by omega), List.drop_eq_nil_of_le (by omega), List.flatMap_nil, List.nil_append]
    have hzl : (ys.zip hs).length = ys.length := by rw [List.length_zip]; omega
    refine go ?_
    refine ⟨?_, by simp⟩ <;> intros
    rw [hzl]
    exact ret1 ⟨_, _, hs, by omega, rfl, rfl⟩
end
end Go.Proofs.Ythejchmhjcfdiaa
