/-
  Walks and laws joined: EnMay.
-/
import Derived.Test.YtflmbhkjhfmeoaaGreatQ39
set_option linter.unusedVariables false
set_option linter.unusedSimpArgs false
namespace Go.Proofs.YtflmbhkjhfmeoaaGreat
open Go.SL
set_option maxHeartbeats 8000000
set_option maxRecDepth 20000
instance mapTy64 : MapTy Tryz.prog 216 2 3 := ⟨by kernel_rfl, by kernel_rfl, fun w => by kernel_rfl⟩
instance mapZero64 : Zero Tryz.prog 216 (.map none) := .of (by kernel_rfl)
theorem rises_chr (n : Nat) (h : n = 0) (A : Option Addr) (c : Nat) : Trip Tryz.prog 171 [.slice A n c, .func (.func 172) #[] #[]] [] (fun v Ps => v = .bool true ∧ Ps = []) := by
  refine Trip.of (m := 26) Tryz.func171 rfl rfl rfl ?_
  intro o Rs
  simp only [List.cons_append, List.nil_append, enumFrom]
  haveI : Plan 4 [16, 21, 23] [0, 1, 2, 3, 4, 6, 7, 8, 9, 10, 11, 5, 12, 13] := ⟨⟩
  subst h
  refine go ?_
  refine ⟨?_, by simp⟩ <;> intros
  refine loop (σ := Unit) (fun _ => True) (fun _ => [(0, .slice A 0 c), (5, .int .i64 1)]) (fun _ => Rs) (fun _ => 0) () trivial fun _ _ => ?_
  refine go ?_
  simp
theorem rises_thg (n : Nat) (h : n = 0) (A : Option Addr) (c : Nat) : Trip Tryz.prog 173 [.slice A n c, .func (.func 174) #[] #[]] [] (fun v Ps => v = .bool true ∧ Ps = []) := by
  refine Trip.of (m := 26) Tryz.func173 rfl rfl rfl ?_
  intro o Rs
  simp only [List.cons_append, List.nil_append, enumFrom]
  haveI : Plan 4 [16, 21, 23] [0, 1, 2, 3, 4, 6, 7, 8, 9, 10, 11, 5, 12, 13] := ⟨⟩
  subst h
  refine go ?_
  refine ⟨?_, by simp⟩ <;> intros
  refine loop (σ := Unit) (fun _ => True) (fun _ => [(0, .slice A 0 c), (5, .int .i64 1)]) (fun _ => Rs) (fun _ => 0) () trivial fun _ _ => ?_
  refine go ?_
  simp
theorem rises_hse (n : Nat) (h : n = 0) (A : Option Addr) (c : Nat) : Trip Tryz.prog 177 [.slice A n c, .func (.func 178) #[] #[]] [] (fun v Ps => v = .bool true ∧ Ps = []) := by
  refine Trip.of (m := 26) Tryz.func177 rfl rfl rfl ?_
  intro o Rs
  simp only [List.cons_append, List.nil_append, enumFrom]
  haveI : Plan 4 [16, 21, 23] [0, 1, 2, 3, 4, 6, 7, 8, 9, 10, 11, 5, 12, 13] := ⟨⟩
  subst h
  refine go ?_
  refine ⟨?_, by simp⟩ <;> intros
  refine loop (σ := Unit) (fun _ => True) (fun _ => [(0, .slice A 0 c), (5, .int .i64 1)]) (fun _ => Rs) (fun _ => 0) () trivial fun _ _ => ?_
  refine go ?_
  simp
theorem rises_lot (n : Nat) (h : n = 0) (A : Option Addr) (c : Nat) : Trip Tryz.prog 179 [.slice A n c, .func (.func 180) #[] #[]] [] (fun v Ps => v = .bool true ∧ Ps = []) := by
  refine Trip.of (m := 26) Tryz.func179 rfl rfl rfl ?_
  intro o Rs
  simp only [List.cons_append, List.nil_append, enumFrom]
  haveI : Plan 4 [16, 21, 23] [0, 1, 2, 3, 4, 6, 7, 8, 9, 10, 11, 5, 12, 13] := ⟨⟩
  subst h
  refine go ?_
  refine ⟨?_, by simp⟩ <;> intros
  refine loop (σ := Unit) (fun _ => True) (fun _ => [(0, .slice A 0 c), (5, .int .i64 1)]) (fun _ => Rs) (fun _ => 0) () trivial fun _ _ => ?_
  refine go ?_
  simp
theorem kid_mob (x : Mob) : Trip Tryz.prog 176 [.agg (mobC x).toArray] [] (fun v Ps => v = .int .i64 (x.id) ∧ Ps = []) := by
  refine Trip.of (m := 5) Tryz.func176 rfl rfl rfl ?_
  intro o Rs
  simp only [List.cons_append, List.nil_append, enumFrom]
  refine go ?_
  simp
theorem rises_mob (l : List (Mob)) (A : Option Addr) (c : Nat) (hl : l.length ≤ 1000000) (h : ∀ (k : Nat) (x y : Mob), l[k]? = some x → l[k + 1]? = some y → (fun x : Mob => x.id) x < (fun x : Mob => x.id) y) (P : HProp) (hP : Reads P (Em) A l) :
    Trip Tryz.prog 175 [.slice A l.length c, .func (.func 176) #[] #[]] [P] (fun v Ps => v = .bool true ∧ Ps = [P]) := by
  refine Trip.of (m := 26) Tryz.func175 rfl rfl rfl ?_
  intro o Rs
  simp only [List.cons_append, List.nil_append, enumFrom]
  haveI : Plan 4 [16, 21, 23] [0, 1, 2, 3, 4, 6, 7, 8, 9, 10, 11, 5, 12, 13] := ⟨⟩
  refine go ?_
  refine ⟨?_, by simp⟩ <;> intros
  refine loop (σ := Nat) (fun k => 1 ≤ k ∧ k ≤ l.length + 1) (fun k => [(0, .slice A l.length c), (1, .func (.func 176) #[] #[]), (5, .int .i64 (k : Int))]) (fun k => P :: Rs) (fun k => l.length + 1 - k) 1 ⟨Nat.le_refl _, by omega⟩ fun k ⟨h1, h2⟩ => ?_
  by_cases hk : k < l.length
  · obtain ⟨x, hx⟩ : ∃ x, l[k]? = some x := ⟨_, List.getElem?_eq_getElem hk⟩
    obtain ⟨y, hy⟩ : ∃ y, l[k - 1]? = some y := ⟨_, List.getElem?_eq_getElem (by omega)⟩
    have hlt := h (k - 1) y x hy (by rw [show k - 1 + 1 = k from by omega]; exact hx)
    have hy2 : l[((k : Int) - 1).toNat]? = some y := by rw [show ((k : Int) - 1).toNat = k - 1 from by omega]; exact hy
    have F1 := kid_mob x
    have F2 := kid_mob y
    simp only at hlt
    refine go ?_
    (repeat' (first | exact trivial | apply And.intro | intro _))
    all_goals first
      | (exfalso; omega)
      | exact rnd (k + 1) ⟨by omega, by omega⟩ (by omega)
  · refine go ?_
    simp
theorem kid_til (x : Till) : Trip Tryz.prog 182 [.agg (tillC x).toArray] [] (fun v Ps => v = .int .i64 (x.room) ∧ Ps = []) := by
  refine Trip.of (m := 5) Tryz.func182 rfl rfl rfl ?_
  intro o Rs
  simp only [List.cons_append, List.nil_append, enumFrom]
  refine go ?_
  simp
theorem rises_til (l : List (Till)) (A : Option Addr) (c : Nat) (hl : l.length ≤ 1000000) (h : ∀ (k : Nat) (x y : Till), l[k]? = some x → l[k + 1]? = some y → (fun x : Till => x.room) x < (fun x : Till => x.room) y) (P : HProp) (hP : Reads P (Ei) A l) :
    Trip Tryz.prog 181 [.slice A l.length c, .func (.func 182) #[] #[]] [P] (fun v Ps => v = .bool true ∧ Ps = [P]) := by
  refine Trip.of (m := 26) Tryz.func181 rfl rfl rfl ?_
  intro o Rs
  simp only [List.cons_append, List.nil_append, enumFrom]
  haveI : Plan 4 [16, 21, 23] [0, 1, 2, 3, 4, 6, 7, 8, 9, 10, 11, 5, 12, 13] := ⟨⟩
  refine go ?_
  refine ⟨?_, by simp⟩ <;> intros
  refine loop (σ := Nat) (fun k => 1 ≤ k ∧ k ≤ l.length + 1) (fun k => [(0, .slice A l.length c), (1, .func (.func 182) #[] #[]), (5, .int .i64 (k : Int))]) (fun k => P :: Rs) (fun k => l.length + 1 - k) 1 ⟨Nat.le_refl _, by omega⟩ fun k ⟨h1, h2⟩ => ?_
  by_cases hk : k < l.length
  · obtain ⟨x, hx⟩ : ∃ x, l[k]? = some x := ⟨_, List.getElem?_eq_getElem hk⟩
    obtain ⟨y, hy⟩ : ∃ y, l[k - 1]? = some y := ⟨_, List.getElem?_eq_getElem (by omega)⟩
    have hlt := h (k - 1) y x hy (by rw [show k - 1 + 1 = k from by omega]; exact hx)
    have hy2 : l[((k : Int) - 1).toNat]? = some y := by rw [show ((k : Int) - 1).toNat = k - 1 from by omega]; exact hy
    have F1 := kid_til x
    have F2 := kid_til y
    simp only at hlt
    refine go ?_
    (repeat' (first | exact trivial | apply And.intro | intro _))
    all_goals first
      | (exfalso; omega)
      | exact rnd (k + 1) ⟨by omega, by omega⟩ (by omega)
  · refine go ?_
    simp
@[reducible] def seenP (o1 o3 o4 bm d : Nat) (l : List (Int × Int)) (P : HProp) (T : List HProp) : List HProp := blk o1 24 [.pointer (some ⟨d, 0, none⟩)] :: blk o3 216 [.map (some bm)] :: blk o4 4 [.bool true] :: mp bm l :: P :: T
theorem seen_yes (d : Nat) (m : Lay) (w : Wld) (P : HProp) [hp : RW P d m w] (o1 o3 o4 bm : Nat) (l : List (Int × Int)) (id : Int) (h0 : 0 < id) (hn : id < w.next) (hm : Miss l id) :
    Trip Tryz.prog 170 [.int .i64 id, .pointer (some ⟨o3, 0, none⟩), .pointer (some ⟨o4, 0, none⟩), .pointer (some ⟨o1, 0, none⟩)] (seenP o1 o3 o4 bm d l P []) (fun v Ps => v = .tuple #[] ∧ Ps = seenP o1 o3 o4 bm d (l ++ [(id, 1)]) P []) := by
  refine Trip.of (m := 28) Tryz.func170 rfl rfl rfl ?_
  intro o Rs
  simp only [List.cons_append, List.nil_append, enumFrom]
  refine go ?_
  refine ⟨?_, by simp⟩ <;> intros
  exact ret0 ⟨rfl, rfl⟩
structure Fresh (w : Wld) : Prop where
  c0 : w.chars.length = 0
  t0 : w.things.length = 0
  h0 : w.houses.length = 0
  l0 : w.lots.length = 0
  nx : w.next = (w.mobs.length : Int) + 1
  ml : w.mobs.length ≤ 60
  mi : ∀ (k : Nat) (x : Mob), w.mobs[k]? = some x → x.id = (k : Int) + 1
  tl : w.tills.length ≤ 60
  ti : ∀ (k : Nat) (x y : Till), w.tills[k]? = some x → w.tills[k + 1]? = some y → x.room < y.room
theorem miss_ids {l : List Mob} (mi : ∀ (k : Nat) (x : Mob), l[k]? = some x → x.id = (k : Int) + 1) (k : Nat) : Miss ((l.take k).map fun m => (m.id, (1 : Int))) ((k : Int) + 1) := by
  intro p hp
  obtain ⟨x, hx, rfl⟩ := List.mem_map.1 hp
  obtain ⟨j, hj, hx⟩ := List.getElem_of_mem hx
  rw [List.length_take] at hj
  have := mi j x (by rw [← hx, List.getElem_take]; exact List.getElem?_eq_getElem (by omega))
  simp only; omega
theorem lists_yes (d : Nat) (m : Lay) (w : Wld) (f : Fresh w) (P : HProp) [hp : RW P d m w] : Trip Tryz.prog 128 [.pointer (some ⟨d, 0, none⟩)] [P] (fun v Ps => v = .bool true ∧ Ps = [P]) := by
  refine Trip.of (m := 123) Tryz.func128 rfl rfl rfl ?_
  intro o Rs
  simp only [List.cons_append, List.nil_append, enumFrom]
  have c0 := f.c0
  have t0 := f.t0
  have h0 := f.h0
  have l0 := f.l0
  have ml := f.ml
  have tl := f.tl
  have nx := f.nx
  refine go ?_
  refine ⟨?_, by simp⟩ <;> intros
  rename_i o1 bm o3 o4
  refine loop (σ := Unit) (fun _ => True) (fun _ => [(1, .pointer (some ⟨o1, 0, none⟩)), (3, .pointer (some ⟨o3, 0, none⟩)), (4, .pointer (some ⟨o4, 0, none⟩)), (5, .func (.func 170) #[] #[.pointer (some ⟨o3, 0, none⟩), .pointer (some ⟨o4, 0, none⟩), .pointer (some ⟨o1, 0, none⟩)]), (18, .int .i64 (w.things.length : Int)), (19, .int .i64 0)]) (fun _ => seenP o1 o3 o4 bm d [] P Rs) (fun _ => 0) () trivial fun _ _ => ?_
  simp only [seenP, List.cons_append, List.nil_append]
  refine go ?_
  refine ⟨?_, by simp⟩ <;> intros
  refine loop (σ := Nat) (fun k => k ≤ w.mobs.length) (fun k => [(1, .pointer (some ⟨o1, 0, none⟩)), (3, .pointer (some ⟨o3, 0, none⟩)), (4, .pointer (some ⟨o4, 0, none⟩)), (5, .func (.func 170) #[] #[.pointer (some ⟨o3, 0, none⟩), .pointer (some ⟨o4, 0, none⟩), .pointer (some ⟨o1, 0, none⟩)]), (31, .slice m.moA w.mobs.length m.moC), (32, .int .i64 (w.mobs.length : Int)), (33, .int .i64 (k : Int))]) (fun k => seenP o1 o3 o4 bm d ((w.mobs.take k).map fun m => (m.id, (1 : Int))) P Rs) (fun k => w.mobs.length - k) 0 (Nat.zero_le _) fun k h1 => ?_
  by_cases hk : k < w.mobs.length
  · obtain ⟨x, hx⟩ : ∃ x, w.mobs[k]? = some x := ⟨_, List.getElem?_eq_getElem hk⟩
    have hid := f.mi k x hx
    have hmi := miss_ids f.mi k
    rw [← hid] at hmi
    have F1 := seen_yes d m w P o1 o3 o4 bm ((w.mobs.take k).map fun m => (m.id, (1 : Int))) x.id (by omega) (by omega) hmi
    have hst : (w.mobs.take (k + 1)).map (fun m => (m.id, (1 : Int))) = (w.mobs.take k).map (fun m => (m.id, (1 : Int))) ++ [(x.id, 1)] := by rw [List.take_add_one, hx]; simp
    generalize (w.mobs.take k).map (fun m => (m.id, (1 : Int))) = L at *
    simp only [seenP, List.cons_append, List.nil_append] at F1 ⊢
    refine go ?_
    refine ⟨?_, by simp⟩ <;> intros
    exact rnd (k + 1) hk (by omega) (hh := by simp only [hst, seenP, List.cons_append, List.nil_append]; (exact ent_))
  generalize (w.mobs.take k).map (fun m => (m.id, (1 : Int))) = L
  simp only [seenP, List.cons_append, List.nil_append]
  refine go ?_
  refine ⟨?_, by simp⟩ <;> intros
  refine loop (σ := Unit) (fun _ => True) (fun _ => [(1, .pointer (some ⟨o1, 0, none⟩)), (4, .pointer (some ⟨o4, 0, none⟩)), (46, .int .i64 (w.lots.length : Int)), (47, .int .i64 0)]) (fun _ => blk o1 24 [.pointer (some ⟨d, 0, none⟩)] :: blk o4 4 [.bool true] :: P :: Rs) (fun _ => 0) () trivial fun _ _ => ?_
  have F1 := rises_chr w.chars.length c0 m.chA m.chC
  have F2 := rises_thg w.things.length t0 m.thA m.thC
  have F3 := rises_mob w.mobs m.moA m.moC (by omega) (fun k x y h1 h2 => by have := f.mi _ _ h1; have := f.mi _ _ h2; simp only; omega) P hp.mo
  have F4 := rises_hse w.houses.length h0 m.hoA m.hoC
  have F5 := rises_lot w.lots.length l0 m.loA m.loC
  have F6 := rises_til w.tills m.tiA m.tiC (by omega) f.ti P hp.ti
  refine go ?_
  simp
theorem tills_one (x : Till) (y : Shp × PA) (h : x.room = y.1.room) (hg : 0 ≤ x.gold ∧ x.gold ≤ 1099511627776) : Trip Tryz.prog 184 [.agg (tillC x).toArray, .agg (shpC y.1 y.2).toArray] [] (fun v Ps => v = .bool true ∧ Ps = []) := by
  refine Trip.of (m := 15) Tryz.func184 rfl rfl rfl ?_
  intro o Rs
  simp only [List.cons_append, List.nil_append, enumFrom]
  have F1 := money_yes x.gold hg
  refine go ?_
  simp
theorem eqtills_yes (a : List Till) (b : List (Shp × PA)) (hl : a.length = b.length) (h1 : a.length ≤ 1000) (h : ∀ (k : Nat) (x : Till) (y : Shp × PA), a[k]? = some x → b[k]? = some y → x.room = y.1.room ∧ 0 ≤ x.gold ∧ x.gold ≤ 1099511627776) (A B : Option Addr) (c e : Nat) (P Q : HProp) (hP : Reads P Ei A a) (hQ : Reads Q Xs B b) :
    Trip Tryz.prog 183 [.slice A a.length c, .slice B b.length e, .func (.func 184) #[] #[]] [P, Q] (fun v Ps => v = .bool true ∧ Ps = [P, Q]) := by
  refine Trip.of (m := 32) Tryz.func183 rfl rfl rfl ?_
  intro o Rs
  simp only [List.cons_append, List.nil_append, enumFrom]
  refine go ?_
  refine ⟨?_, by simp⟩ <;> intros
  refine loop (fun k => k ≤ a.length) (fun k => [(0, .slice A a.length c), (1, .slice B b.length e), (2, .func (.func 184) #[] #[]), (15, .slice A a.length c), (16, .int .i64 (a.length : Int)), (17, .int .i64 (k : Int))]) (fun k => P :: Q :: Rs) (fun k => a.length - k) 0 (Nat.zero_le _) fun k h1 => ?_
  by_cases hk : k < a.length
  · obtain ⟨x, hx⟩ : ∃ x, a[k]? = some x := ⟨_, List.getElem?_eq_getElem hk⟩
    obtain ⟨y, hy⟩ : ∃ y, b[k]? = some y := ⟨_, List.getElem?_eq_getElem (by omega)⟩
    obtain ⟨h2, h3⟩ := h k x y hx hy
    have F1 := tills_one x y h2 h3
    refine go ?_
    refine ⟨?_, by simp⟩ <;> intros
    exact rnd (k + 1) hk (by omega)
  · refine go ?_
    simp
theorem tills_yes (d e : Nat) (m : Lay) (w : Wld) (mt : Tay) (t : Tab) (lt : TLaid mt t) (hl : w.tills.length = t.shops.length) (h1 : w.tills.length ≤ 1000) (h : ∀ (k : Nat) (x : Till) (y : Shp), w.tills[k]? = some x → t.shops[k]? = some y → x.room = y.room ∧ 0 ≤ x.gold ∧ x.gold ≤ 1099511627776) (P R : HProp) [hp : RW P d m w] [hr : RT R e mt t] :
    Trip Tryz.prog 129 [.pointer (some ⟨d, 0, none⟩), .pointer (some ⟨e, 0, none⟩)] [P, R] (fun v Ps => v = .bool true ∧ Ps = [P, R]) := by
  refine Trip.of (m := 14) Tryz.func129 rfl rfl rfl ?_
  intro o Rs
  simp only [List.cons_append, List.nil_append, enumFrom]
  haveI : Plan 1 [8, 12] [0, 1, 2, 3, 4, 5, 6, 7, 8, 9] := ⟨⟩
  have zs : t.shops.length = (t.shops.zip mt.it).length := by rw [List.length_zip, lt.2, Nat.min_self]
  have F1 := eqtills_yes w.tills (t.shops.zip mt.it) (by omega) h1 (fun k x y hx hy => h k x y.1 hx (by
    have := List.getElem?_zip_eq_some.1 hy
    exact this.1)) m.tiA mt.shA m.tiC mt.shC P R hp.ti hr.sh
  rw [← zs] at F1
  refine go ?_
  simp
end Go.Proofs.YtflmbhkjhfmeoaaGreat
