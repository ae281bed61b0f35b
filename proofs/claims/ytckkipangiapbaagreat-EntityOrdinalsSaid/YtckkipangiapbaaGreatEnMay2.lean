/-
  The program's worlds: a new one of tables that may be, may be.
-/
import Derived.Test.YtckkipangiapbaaGreatEnMay
import Derived.Test.YtckkipangiapbaaGreatEnNew
namespace Go.Proofs.YtckkipangiapbaaGreat
open Go.SL
set_option linter.unusedVariables false
set_option linter.unusedSimpArgs false
set_option maxHeartbeats 8000000
set_option maxRecDepth 20000
theorem ri_lt {l : List Int} {most : Nat} (h : Ri l most) : ∀ (j i : Nat) (x y : Int), i < j → l[i]? = some x → l[j]? = some y → x < y
  | 0, i, x, y, hij, _, _ => by omega
  | j + 1, i, x, y, hij, hx, hy => by
    have hlt := (List.getElem?_eq_some_iff.1 hy).1
    obtain ⟨z, hz⟩ : ∃ z, l[j]? = some z := ⟨_, List.getElem?_eq_getElem (by omega)⟩
    have h1 := h.up j z y hz hy
    by_cases e : i = j
    · subst e; rw [hx] at hz; cases hz; exact h1
    · have := ri_lt h j i x z (by omega) hx hz; omega
theorem ri_find {α : Type} {f : α → Int} {l : List α} {most : Nat} (h : Ri (l.map f) most) {k : Nat} {x : α} (hx : l[k]? = some x) : l.findIdx? (fun y => f y == f x) = some k := by
  have hk := (List.getElem?_eq_some_iff.1 hx).1
  refine find_hit ?_ hx (by simp)
  rw [List.findIdx?_eq_none_iff]
  intro y hy
  obtain ⟨i, hi, rfl⟩ := List.getElem_of_mem hy
  rw [List.length_take] at hi
  have := ri_lt h k i (f l[i]) (f x) (by omega) (by rw [List.getElem?_map, List.getElem?_eq_getElem (by omega)]; rfl) (by rw [List.getElem?_map, hx]; rfl)
  rw [List.getElem_take]
  simp; omega
theorem newM_get {l : List Mpr} {k : Nat} {x : Mob} (h : (newM l)[k]? = some x) : ∃ q, l[k]? = some q ∧ x = ⟨(k : Int) + 1, q.id, q.home, q.hp⟩ := by
  unfold newM at h
  rw [List.getElem?_map, List.getElem?_zipIdx] at h
  cases hq : l[k]? with
  | none => rw [hq] at h; cases h
  | some q =>
    rw [hq] at h
    simp only [Option.map_some, Option.some.injEq] at h
    refine ⟨q, rfl, ?_⟩
    rw [← h]; simp
theorem newI_get {l : List Shp} {k : Nat} {x : Till} (h : (newI l)[k]? = some x) : ∃ s, l[k]? = some s ∧ x = ⟨s.room, s.till⟩ := by
  unfold newI at h
  rw [List.getElem?_map] at h
  cases hq : l[k]? with
  | none => rw [hq] at h; cases h
  | some q => rw [hq] at h; cases h; exact ⟨q, rfl, rfl⟩
theorem fresh_new {t : Tab} (g : Good t) : Fresh (newW t) where
  c0 := rfl
  t0 := rfl
  h0 := rfl
  l0 := rfl
  nx := by show ((t.mobs.length : Int) + 1) = ((newM t.mobs).length : Int) + 1; rw [newM_len]
  ml := by show (newM t.mobs).length ≤ 60; rw [newM_len]; have := g.rm.len; rwa [List.length_map] at this
  mi k x h := by obtain ⟨q, _, rfl⟩ := newM_get h; rfl
  tl := by show (newI t.shops).length ≤ 60; rw [newI_len]; have := g.rs.len; rwa [List.length_map] at this
  ti k x y h1 h2 := by
    obtain ⟨a, ha, rfl⟩ := newI_get h1
    obtain ⟨b, hb, rfl⟩ := newI_get h2
    exact g.rs.up k a.room b.room (by rw [List.getElem?_map, ha]; rfl) (by rw [List.getElem?_map, hb]; rfl)
theorem mob_yes (e : Nat) (mt : Tay) (t : Tab) (g : Good t) (R : HProp) [hr : RT R e mt t] (o3 : Nat) (P : HProp) (x : Mob) (k : Nat) (q : Mpr) (hq : t.mobs[k]? = some q) (hx : x = ⟨(k : Int) + 1, q.id, q.home, q.hp⟩) :
    Trip Tryz.prog 75 ([.agg (mobC x).toArray] ++ [.pointer (some ⟨o3, 0, none⟩)]) [P, blk o3 25 [.pointer (some ⟨e, 0, none⟩)], R] (fun v Ps => v = .bool true ∧ Ps = [P, blk o3 25 [.pointer (some ⟨e, 0, none⟩)], R]) := by
  refine Trip.of (m := 32) Tryz.func75 rfl rfl rfl ?_
  intro o Rs
  simp only [List.cons_append, List.nil_append, enumFrom]
  have b1 : t.rooms.length ≤ 60 := by have := g.rr.len; rwa [List.length_map] at this
  have b3 : t.mobs.length ≤ 60 := by have := g.rm.len; rwa [List.length_map] at this
  have hok := g.mo q (List.mem_of_getElem? hq)
  have hhp := hok.hp
  have hfi : mprI t q.id = some k := ri_find g.rm hq
  have F1 := MobP_spec e mt t q.id (by omega) R
  rw [show mprD t q.id = q from by rw [mprD, hfi]; exact getD_of hq, hfi, Option.isSome_some] at F1
  have F2 := room_yes e mt t q.home (by omega) hok.ho R
  subst hx
  refine go ?_
  simp
def tsum (l : List Till) : Int := (l.map (·.gold)).foldl (· + ·) 0
theorem tsum_step {l : List Till} {k : Nat} {x : Till} (h : l[k]? = some x) : tsum (l.take (k + 1)) = tsum (l.take k) + x.gold := by
  rw [tsum, map_stp _ h, List.foldl_append]; rfl
theorem tsum_le {l : List Till} (hl : ∀ s ∈ l, 0 ≤ s.gold ∧ s.gold ≤ 1099511627776) : ∀ (k : Nat), k ≤ l.length → 0 ≤ tsum (l.take k) ∧ tsum (l.take k) ≤ 1099511627776 * k
  | 0, _ => by simp [tsum]
  | k + 1, hk => by
    have h1 := tsum_le hl k (by omega)
    have h2 := hl l[k] (List.getElem_mem (by omega))
    rw [tsum_step (List.getElem?_eq_getElem (by omega))]; omega
theorem Total_new (d : Nat) (m : Lay) (w : Wld) (f : Fresh w) (hg : ∀ x ∈ w.tills, 0 ≤ x.gold ∧ x.gold ≤ 1099511627776) (P : HProp) [hp : RW P d m w] : Trip Tryz.prog 146 [.pointer (some ⟨d, 0, none⟩)] [P] (fun v Ps => v = .int .i64 (tsum w.tills) ∧ Ps = [P]) := by
  refine Trip.of (m := 74) Tryz.func146 rfl rfl rfl ?_
  intro o Rs
  simp only [List.cons_append, List.nil_append, enumFrom]
  have c0 := f.c0
  have h0 := f.h0
  have l0 := f.l0
  have tl := f.tl
  refine go ?_
  refine ⟨?_, by simp⟩ <;> intros
  refine loop (σ := Unit) (fun _ => True) (fun _ => [(0, .pointer (some ⟨d, 0, none⟩)), (3, .int .i64 0), (18, .int .i64 (w.chars.length : Int)), (19, .int .i64 0)]) (fun _ => P :: Rs) (fun _ => 0) () trivial fun _ _ => ?_
  refine go ?_
  refine ⟨?_, by simp⟩ <;> intros
  refine loop (σ := Nat) (fun k => k ≤ w.tills.length) (fun k => [(0, .pointer (some ⟨d, 0, none⟩)), (3, .int .i64 (tsum (w.tills.take k))), (34, .slice m.tiA w.tills.length m.tiC), (35, .int .i64 (w.tills.length : Int)), (36, .int .i64 (k : Int))]) (fun k => P :: Rs) (fun k => w.tills.length - k) 0 (Nat.zero_le _) fun k h1 => ?_
  by_cases hk : k < w.tills.length
  · obtain ⟨x, hx⟩ : ∃ x, w.tills[k]? = some x := ⟨_, List.getElem?_eq_getElem hk⟩
    have hst := tsum_step hx
    have hle := tsum_le hg k h1
    have hxg := hg x (List.mem_of_getElem? hx)
    generalize tsum (w.tills.take k) = z at *
    refine go ?_
    refine ⟨?_, by simp⟩ <;> intros
    exact rnd (k + 1) hk (by omega) (hx := by simp only [hst]; (repeat (first | exact trivial | refine And.intro rfl ?_ | fail)))
  rw [List.take_of_length_le (by omega)]
  have hle := tsum_le hg w.tills.length (Nat.le_refl _)
  rw [List.take_of_length_le (Nat.le_refl _)] at hle
  generalize tsum w.tills = z at *
  refine go ?_
  refine ⟨?_, by simp⟩ <;> intros
  refine loop (σ := Unit) (fun _ => True) (fun _ => [(0, .pointer (some ⟨d, 0, none⟩)), (3, .int .i64 z), (49, .int .i64 (w.houses.length : Int)), (50, .int .i64 0)]) (fun _ => P :: Rs) (fun _ => 0) () trivial fun _ _ => ?_
  refine go ?_
  refine ⟨?_, by simp⟩ <;> intros
  refine loop (σ := Unit) (fun _ => True) (fun _ => [(3, .int .i64 z), (63, .int .i64 (w.lots.length : Int)), (64, .int .i64 0)]) (fun _ => P :: Rs) (fun _ => 0) () trivial fun _ _ => ?_
  refine go ?_
  simp
theorem total_new (d : Nat) (m : Lay) (w : Wld) (f : Fresh w) (hg : ∀ x ∈ w.tills, 0 ≤ x.gold ∧ x.gold ≤ 1099511627776) (P : HProp) [hp : RW P d m w] : Trip Tryz.prog 87 [.pointer (some ⟨d, 0, none⟩)] [P] (fun v Ps => v = .int .i64 (tsum w.tills) ∧ Ps = [P]) := by
  refine Trip.of (m := 5) Tryz.func87 rfl rfl rfl ?_
  intro o Rs
  simp only [List.cons_append, List.nil_append, enumFrom]
  have F1 := Total_new d m w f hg P
  refine go ?_
  simp
end Go.Proofs.YtckkipangiapbaaGreat
