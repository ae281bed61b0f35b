/-
  Walks and laws joined: WdRound EnMay2 EnMay3.
-/
import Derived.Test.YtflmbhkjhfmeoaaGreatQ31
import Derived.Test.YtflmbhkjhfmeoaaGreatQ10
import Derived.Test.YtflmbhkjhfmeoaaGreatQ28
import Derived.Test.YtflmbhkjhfmeoaaGreatQ32
import Derived.Test.YtflmbhkjhfmeoaaGreatQ51
import Derived.Test.YtflmbhkjhfmeoaaGreatQ26
set_option linter.unusedVariables false
set_option linter.unusedSimpArgs false
namespace Go.Proofs.YtflmbhkjhfmeoaaGreat
open Go.SL
set_option maxHeartbeats 8000000
set_option maxRecDepth 20000
structure Rnd (tab : Tab) (L : List Int) (I : Nat → Wld → Prop) : Prop where
  bw : ∀ i w, I i w → Bw w
  nc : ∀ i w, I i w → w.chars.length ≤ 24
  fg : ∀ i w x, I i w → x ∈ w.chars → Fgt tab w x
  up : ∀ i w, i < 24 → I i w → I (i + 1) w
  go : ∀ i w c k x, i < 24 → I i w → w.chars[c]? = some x → x.on = true → x.foe ≠ 0 → I (i + 1) (fightA tab L w c k).1.1 ∧ (fightA tab L w c k).1.1.chars.length = w.chars.length ∧ (fightA tab L w c k).1.2.length ≤ 3000
section
variable (t d e : Nat) (m : Lay) (w : Wld) (mt : Tay) (tab : Tab) (S : List Sy) (u : Int)
theorem range_fold {β : Type} (f : β → Nat → β) (b : β) (c : Nat) : (List.range (c + 1)).foldl f b = f ((List.range c).foldl f b) c := by
  rw [List.range_succ, List.foldl_append]; rfl
theorem Round_spec (bt : Bt tab) (I : Nat → Wld → Prop) (L : List Int) (hI : Rnd tab L I) (hw : I 0 w) (R : HProp) [hr : RT R e mt tab] (b : Nat) (A : Option Addr) (cc : Nat) (hok : ∀ n ∈ L, -9223372036854775808 ≤ n ∧ n ≤ 9223372036854775807) (Q : HProp) (hQ : Reads Q E64 A L) (hl : L.length ≤ 100000) (hS : S.length ≤ 100000) :
    Trip Tryz.prog 160 [.pointer (some ⟨t, 0, none⟩), .pointer (some ⟨b, 0, none⟩)] [ts t d e S u, wl d m w, R, blk b 46 [.slice A L.length cc, .int .i64 0], Q]
      (fun v Ps => ∃ m', v = .tuple #[] ∧ Ps = [ts t d e (S ++ (roundA tab L w).1.2) u, wl d m' (roundA tab L w).1.1, R, blk b 46 [.slice A L.length cc, .int .i64 ((roundA tab L w).2 : Int)], Q]) := by
  refine Trip.of (m := 46) Tryz.func160 rfl rfl rfl ?_
  intro o Rs
  simp only [List.cons_append, List.nil_append, enumFrom]
  unfold roundA
  have hn := hI.nc 0 w hw
  refine goW ?_
  refine ⟨?_, by simp⟩ <;> intros
  refine loop (σ := Nat × ((Wld × List Sy) × Nat) × Lay) (fun s => s.1 ≤ w.chars.length ∧ s.2.1 = (List.range s.1).foldl (fightIf tab L) ((w, []), 0) ∧ I s.1 s.2.1.1.1 ∧ s.2.1.1.1.chars.length = w.chars.length ∧ s.2.1.1.2.length ≤ 3000 * s.1) (fun s => [(0, .pointer (some ⟨t, 0, none⟩)), (1, .pointer (some ⟨b, 0, none⟩)), (4, .int .i64 (s.1 : Int))])
    (fun s => ts t d e (S ++ s.2.1.1.2) u :: wl d s.2.2 s.2.1.1.1 :: R :: blk b 46 [.slice A L.length cc, .int .i64 (s.2.1.2 : Int)] :: Q :: Rs) (fun s => w.chars.length - s.1) (0, ((w, []), 0), m) ⟨Nat.zero_le _, rfl, hw, rfl, Nat.zero_le _⟩ ?_ (by (repeat (first | exact trivial | refine And.intro rfl ?_ | fail))) (by rw [List.append_nil]; (exact ent_))
  rintro ⟨c, ⟨⟨w1, S1⟩, k⟩, m1⟩ ⟨h1, h2, h3, h4, h5⟩
  simp only at h1 h2 h3 h4 h5 ⊢
  refine cwl (d := d) (m := m1) (t := w1) fun lm1 => ?_
  by_cases hc : c < w.chars.length
  · obtain ⟨x, hx⟩ : ∃ x, w1.chars[c]? = some x := ⟨_, List.getElem?_eq_getElem (by omega)⟩
    have hcl := (List.getElem?_eq_some_iff.1 hx).1
    obtain ⟨⟨A0, c0⟩, hz, _⟩ := zip_get hx lm1.1
    have zc : w1.chars.length = (w1.chars.zip m1.dn).length := by rw [List.length_zip, lm1.1, Nat.min_self]
    have hst := range_fold (fightIf tab L) ((w, []), 0) c
    rw [← h2] at hst
    unfold fightIf at hst
    simp only [getD_of hx] at hst
    by_cases hf : x.on = true ∧ x.foe ≠ 0
    · rw [if_pos hf] at hst
      obtain ⟨hon, hfo⟩ := hf
      obtain ⟨g1, g2, g3⟩ := hI.go c w1 c k x (by omega) h3 hx hon hfo
      have F1 := fight_spec t d e m1 w1 mt tab (S ++ S1) u (hI.bw c w1 h3) bt lm1 R c x hx (hI.fg c w1 x h3 (List.mem_of_getElem? hx)) b A cc L hok Q hQ k hl (by rw [List.length_append]; omega)
      rw [List.append_assoc] at F1
      generalize fightA tab L w1 c k = r at *
      replace hst := Bx.mk hst
      clear h2 hI
      refine goW ?_
      (repeat' (first | exact trivial | apply And.intro | intro _))
      all_goals first
        | (exfalso; clear zc; first | contradiction | omega | (simp_all; done))
        | (rename Lay => m2
           exact rnd (c + 1, ((r.1.1, S1 ++ r.1.2), r.2), m2) ⟨hc, hst.get.symm, g1, by simp only; omega, by simp only [List.length_append]; omega⟩ (by simp only; omega))
    · rw [if_neg hf] at hst
      replace hst := Bx.mk hst
      have h3u := hI.up c w1 (by omega) h3
      clear h2 hI h3
      refine goW ?_
      (repeat' (first | exact trivial | apply And.intro | intro _))
      all_goals first
        | (exfalso; exact hf ⟨by assumption, by assumption⟩)
        | (exfalso; clear zc; first | contradiction | omega | (simp_all; done))
        | exact rnd (c + 1, ((w1, S1), k), m1) ⟨hc, hst.get.symm, h3u, by simp only; omega, by simp only; omega⟩ (by simp only; omega)
  have hcn : c = w.chars.length := by omega
  subst hcn
  rw [← h2]
  have hge : w1.chars.length ≤ w.chars.length := by omega
  clear h2 hI
  refine goW ?_
  refine ⟨?_, by simp⟩ <;> intros
  exact ret0 ⟨m1, rfl, rfl⟩
end
end Go.Proofs.YtflmbhkjhfmeoaaGreat
namespace Go.Proofs.YtflmbhkjhfmeoaaGreat
open Go.SL
set_option maxHeartbeats 8000000
set_option maxRecDepth 20000
theorem ri_lt {l : List Int} {most : Nat} (h : Ri l most) : ∀ (j i : Nat) (x y : Int), i < j → l[i]? = some x → l[j]? = some y → x < y
  | 0, i, x, y, hij, _, _ => by omega
  | j + 1, i, x, y, hij, hx, hy => by
    have hlt := (List.getElem?_eq_some_iff.1 hy).1
    obtain ⟨z, hz⟩ : ∃ z, l[j]? = some z := ⟨_, List.getElem?_eq_getElem (by omega)⟩
    have h1 := h.up j z y hz hy
    by_cases e : i = j
    · subst e; rw [hx] at hz; cases hz; exact h1
    · have := ri_lt h j i x z (by omega) hx hz; omega
theorem ri_find {α : Type} {f : α → Int} {l : List α} {most : Nat} (h : Ri (l.map f) most) {k : Nat} {x : α} (hx : l[k]? = some x) : l.findIdx? (fun y => f y == f x) = some k := by
  have hk := (List.getElem?_eq_some_iff.1 hx).1
  refine find_hit ?_ hx (by simp)
  rw [List.findIdx?_eq_none_iff]
  intro y hy
  obtain ⟨i, hi, rfl⟩ := List.getElem_of_mem hy
  rw [List.length_take] at hi
  have := ri_lt h k i (f l[i]) (f x) (by omega) (by rw [List.getElem?_map, List.getElem?_eq_getElem (by omega)]; rfl) (by rw [List.getElem?_map, hx]; rfl)
  rw [List.getElem_take]
  simp; omega
theorem newM_get {l : List Mpr} {k : Nat} {x : Mob} (h : (newM l)[k]? = some x) : ∃ q, l[k]? = some q ∧ x = ⟨(k : Int) + 1, q.id, q.home, q.hp⟩ := by
  unfold newM at h
  rw [List.getElem?_map, List.getElem?_zipIdx] at h
  cases hq : l[k]? with
  | none => rw [hq] at h; cases h
  | some q =>
    rw [hq] at h
    simp only [Option.map_some, Option.some.injEq] at h
    refine ⟨q, rfl, ?_⟩
    rw [← h]; simp
theorem newI_get {l : List Shp} {k : Nat} {x : Till} (h : (newI l)[k]? = some x) : ∃ s, l[k]? = some s ∧ x = ⟨s.room, s.till⟩ := by
  unfold newI at h
  rw [List.getElem?_map] at h
  cases hq : l[k]? with
  | none => rw [hq] at h; cases h
  | some q => rw [hq] at h; cases h; exact ⟨q, rfl, rfl⟩
theorem fresh_new {t : Tab} (g : Good t) : Fresh (newW t) where
  c0 := rfl
  t0 := rfl
  h0 := rfl
  l0 := rfl
  nx := by show ((t.mobs.length : Int) + 1) = ((newM t.mobs).length : Int) + 1; rw [newM_len]
  ml := by show (newM t.mobs).length ≤ 60; rw [newM_len]; have := g.rm.len; rwa [List.length_map] at this
  mi k x h := by obtain ⟨q, _, rfl⟩ := newM_get h; rfl
  tl := by show (newI t.shops).length ≤ 60; rw [newI_len]; have := g.rs.len; rwa [List.length_map] at this
  ti k x y h1 h2 := by
    obtain ⟨a, ha, rfl⟩ := newI_get h1
    obtain ⟨b, hb, rfl⟩ := newI_get h2
    exact g.rs.up k a.room b.room (by rw [List.getElem?_map, ha]; rfl) (by rw [List.getElem?_map, hb]; rfl)
theorem mob_yes (e : Nat) (mt : Tay) (t : Tab) (g : Good t) (R : HProp) [hr : RT R e mt t] (o3 : Nat) (P : HProp) (x : Mob) (k : Nat) (q : Mpr) (hq : t.mobs[k]? = some q) (hx : x = ⟨(k : Int) + 1, q.id, q.home, q.hp⟩) :
    Trip Tryz.prog 134 ([.agg (mobC x).toArray] ++ [.pointer (some ⟨o3, 0, none⟩)]) [P, blk o3 26 [.pointer (some ⟨e, 0, none⟩)], R] (fun v Ps => v = .bool true ∧ Ps = [P, blk o3 26 [.pointer (some ⟨e, 0, none⟩)], R]) := by
  refine Trip.of (m := 32) Tryz.func134 rfl rfl rfl ?_
  intro o Rs
  simp only [List.cons_append, List.nil_append, enumFrom]
  have b1 : t.rooms.length ≤ 60 := by have := g.rr.len; rwa [List.length_map] at this
  have b3 : t.mobs.length ≤ 60 := by have := g.rm.len; rwa [List.length_map] at this
  have hok := g.mo q (List.mem_of_getElem? hq)
  have hhp := hok.hp
  have hfi : mprI t q.id = some k := ri_find g.rm hq
  have F1 := MobP_spec e mt t q.id (by omega) R
  rw [show mprD t q.id = q from by rw [mprD, hfi]; exact getD_of hq, hfi, Option.isSome_some] at F1
  have F2 := room_yes e mt t q.home (by omega) hok.ho R
  subst hx
  refine go ?_
  simp
def tsum (l : List Till) : Int := (l.map (·.gold)).foldl (· + ·) 0
theorem tsum_step {l : List Till} {k : Nat} {x : Till} (h : l[k]? = some x) : tsum (l.take (k + 1)) = tsum (l.take k) + x.gold := by
  rw [tsum, map_stp _ h, List.foldl_append]; rfl
theorem tsum_le {l : List Till} (hl : ∀ s ∈ l, 0 ≤ s.gold ∧ s.gold ≤ 1099511627776) : ∀ (k : Nat), k ≤ l.length → 0 ≤ tsum (l.take k) ∧ tsum (l.take k) ≤ 1099511627776 * k
  | 0, _ => by simp [tsum]
  | k + 1, hk => by
    have h1 := tsum_le hl k (by omega)
    have h2 := hl l[k] (List.getElem_mem (by omega))
    rw [tsum_step (List.getElem?_eq_getElem (by omega))]; omega
theorem Total_new (d : Nat) (m : Lay) (w : Wld) (f : Fresh w) (hg : ∀ x ∈ w.tills, 0 ≤ x.gold ∧ x.gold ≤ 1099511627776) (P : HProp) [hp : RW P d m w] : Trip Tryz.prog 209 [.pointer (some ⟨d, 0, none⟩)] [P] (fun v Ps => v = .int .i64 (tsum w.tills) ∧ Ps = [P]) := by
  refine Trip.of (m := 74) Tryz.func209 rfl rfl rfl ?_
  intro o Rs
  simp only [List.cons_append, List.nil_append, enumFrom]
  have c0 := f.c0
  have h0 := f.h0
  have l0 := f.l0
  have tl := f.tl
  refine go ?_
  refine ⟨?_, by simp⟩ <;> intros
  refine loop (σ := Unit) (fun _ => True) (fun _ => [(0, .pointer (some ⟨d, 0, none⟩)), (3, .int .i64 0), (18, .int .i64 (w.chars.length : Int)), (19, .int .i64 0)]) (fun _ => P :: Rs) (fun _ => 0) () trivial fun _ _ => ?_
  refine go ?_
  refine ⟨?_, by simp⟩ <;> intros
  refine loop (σ := Nat) (fun k => k ≤ w.tills.length) (fun k => [(0, .pointer (some ⟨d, 0, none⟩)), (3, .int .i64 (tsum (w.tills.take k))), (34, .slice m.tiA w.tills.length m.tiC), (35, .int .i64 (w.tills.length : Int)), (36, .int .i64 (k : Int))]) (fun k => P :: Rs) (fun k => w.tills.length - k) 0 (Nat.zero_le _) fun k h1 => ?_
  by_cases hk : k < w.tills.length
  · obtain ⟨x, hx⟩ : ∃ x, w.tills[k]? = some x := ⟨_, List.getElem?_eq_getElem hk⟩
    have hst := tsum_step hx
    have hle := tsum_le hg k h1
    have hxg := hg x (List.mem_of_getElem? hx)
    generalize tsum (w.tills.take k) = z at *
    refine go ?_
    refine ⟨?_, by simp⟩ <;> intros
    exact rnd (k + 1) hk (by omega) (hx := by simp only [hst]; (repeat (first | exact trivial | refine And.intro rfl ?_ | fail)))
  rw [List.take_of_length_le (by omega)]
  have hle := tsum_le hg w.tills.length (Nat.le_refl _)
  rw [List.take_of_length_le (Nat.le_refl _)] at hle
  generalize tsum w.tills = z at *
  refine go ?_
  refine ⟨?_, by simp⟩ <;> intros
  refine loop (σ := Unit) (fun _ => True) (fun _ => [(0, .pointer (some ⟨d, 0, none⟩)), (3, .int .i64 z), (49, .int .i64 (w.houses.length : Int)), (50, .int .i64 0)]) (fun _ => P :: Rs) (fun _ => 0) () trivial fun _ _ => ?_
  refine go ?_
  refine ⟨?_, by simp⟩ <;> intros
  refine loop (σ := Unit) (fun _ => True) (fun _ => [(3, .int .i64 z), (63, .int .i64 (w.lots.length : Int)), (64, .int .i64 0)]) (fun _ => P :: Rs) (fun _ => 0) () trivial fun _ _ => ?_
  refine go ?_
  simp
theorem total_new (d : Nat) (m : Lay) (w : Wld) (f : Fresh w) (hg : ∀ x ∈ w.tills, 0 ≤ x.gold ∧ x.gold ≤ 1099511627776) (P : HProp) [hp : RW P d m w] : Trip Tryz.prog 145 [.pointer (some ⟨d, 0, none⟩)] [P] (fun v Ps => v = .int .i64 (tsum w.tills) ∧ Ps = [P]) := by
  refine Trip.of (m := 5) Tryz.func145 rfl rfl rfl ?_
  intro o Rs
  simp only [List.cons_append, List.nil_append, enumFrom]
  have F1 := Total_new d m w f hg P
  refine go ?_
  simp
end Go.Proofs.YtflmbhkjhfmeoaaGreat
namespace Go.Proofs.YtflmbhkjhfmeoaaGreat
open Go.SL
set_option maxHeartbeats 8000000
set_option maxRecDepth 20000
theorem all_true {α : Type} (l : List α) : (l.all fun _ => true) = true := by simp
theorem May_new (d e : Nat) (m : Lay) (mt : Tay) (t : Tab) (g : Good t) (lt : TLaid mt t) (w : Wld) (hw : w = newW t) (lm : Laid m w) (P R : HProp) [hp : RW P d m w] [hr : RT R e mt t] :
    Trip Tryz.prog 81 [.pointer (some ⟨d, 0, none⟩), .pointer (some ⟨e, 0, none⟩)] [P, R] (fun v Ps => v = .bool true ∧ Ps = [P, R]) := by
  refine Trip.of (m := 98) Tryz.func81 rfl rfl rfl ?_
  intro o Rs
  simp only [List.cons_append, List.nil_append, enumFrom]
  haveI : Plans 3 [51, 54] [5, 12, 20, 28, 36, 40, 41, 44] [[0, 1, 2, 3, 4, 5, 6, 7, 8, 9, 10, 11, 12, 13, 14, 15, 16, 17, 18, 19, 20, 21, 22, 23, 24, 25, 26, 27, 28, 29, 30, 31, 32, 33, 34, 35, 36, 37, 38, 39, 40, 41, 42, 43, 44, 45, 46, 47], [0, 1, 2, 3, 4, 5, 6, 7, 8, 9, 10, 11, 12, 13, 14, 15, 16, 17, 18, 19, 20, 21, 22, 23, 24, 25, 26, 27, 28, 29, 30, 31, 32, 33, 34, 35, 36, 37, 38, 39, 41, 42, 43, 40, 44, 45, 46, 47], [0, 1, 2, 3, 4, 5, 6, 7, 8, 9, 10, 11, 12, 13, 14, 15, 16, 17, 18, 19, 20, 21, 22, 23, 24, 25, 26, 27, 28, 29, 30, 31, 32, 33, 34, 35, 36, 37, 38, 39, 41, 42, 43, 44, 40, 45, 46, 47]] := ⟨⟩
  have f : Fresh w := hw ▸ fresh_new g
  have zc : w.chars.length = (w.chars.zip m.dn).length := by rw [List.length_zip, lm.1, Nat.min_self]
  have zh : w.houses.length = (w.houses.zip m.gs).length := by rw [List.length_zip, lm.2, Nat.min_self]
  have hsl : t.shops.length ≤ 60 := by have := g.rs.len; rwa [List.length_map] at this
  have htl : w.tills.length = t.shops.length := by rw [hw]; exact newI_len _
  have hgs : ∀ x ∈ w.tills, 0 ≤ x.gold ∧ x.gold ≤ 1099511627776 := by
    intro x hx
    rw [hw] at hx
    obtain ⟨s, hs, rfl⟩ := List.mem_map.1 hx
    have := (g.so s hs).ti
    simp only; omega
  have F1 := Check_yes e mt t g lt R
  have F2 := lists_yes d m w f P
  have F3 := tills_yes d e m w mt t lt htl (by omega) (fun k x y hx hy => by
    have hb := hgs x (List.mem_of_getElem? hx)
    rw [hw] at hx
    obtain ⟨s, hs, rfl⟩ := newI_get hx
    rw [hs] at hy; cases hy
    exact ⟨rfl, hb⟩) P R
  have hmt : tsum w.tills = w.minted := by rw [hw]; simp [newW, tsum, newG, newI, List.map_map, Function.comp_def]
  have F9 := total_new d m w f hgs P
  rw [hmt] at F9
  have n0 : w.now = 0 := by rw [hw]; rfl
  have nx := f.nx
  have ml := f.ml
  have c0 := f.c0
  have t0 := f.t0
  have h0 := f.h0
  have l0 := f.l0
  refine C.seq (C.region ?_)
  refine gow ?_
  refine ⟨?_, by simp⟩ <;> intros
  rename_i o2 o3
  have F4 := all_thg w.things m.thA m.thC (by omega) P hp.th 131 [.pointer (some ⟨o2, 0, none⟩), .pointer (some ⟨o3, 0, none⟩)] [P] [] .here (fun _ => true) (fun x hx => by rw [List.length_eq_zero_iff.1 t0] at hx; cases hx)
  have F5 := all_mob w.mobs m.moA m.moC (by omega) P hp.mo 134 [.pointer (some ⟨o3, 0, none⟩)] [P, blk o3 26 [.pointer (some ⟨e, 0, none⟩)], R] [blk o3 26 [.pointer (some ⟨e, 0, none⟩)], R] .here (fun _ => true) (fun x hx => by
    obtain ⟨k, hk, hx⟩ := List.getElem_of_mem hx
    have h2 : (newM t.mobs)[k]? = some x := by
      have := List.getElem?_eq_getElem hk
      rw [hx] at this
      rw [← this, hw]; rfl
    obtain ⟨q, hq, he⟩ := newM_get h2
    exact mob_yes e mt t g R o3 P x k q hq he)
  have F6 := all_chr (w.chars.zip m.dn) m.chA m.chC (by omega) P hp.ch 137 [.pointer (some ⟨o2, 0, none⟩), .pointer (some ⟨o3, 0, none⟩)] [P] [] .here (fun _ => true) (fun x hx => by rw [List.length_eq_zero_iff.1 (zc.symm.trans c0)] at hx; cases hx)
  have F7 := all_hse (w.houses.zip m.gs) m.hoA m.hoC (by omega) P hp.ho 140 [.pointer (some ⟨o2, 0, none⟩), .pointer (some ⟨o3, 0, none⟩)] [P] [] .here (fun _ => true) (fun x hx => by rw [List.length_eq_zero_iff.1 (zh.symm.trans h0)] at hx; cases hx)
  have F8 := all_lot w.lots m.loA m.loC (by omega) P hp.lo 143 [.pointer (some ⟨o2, 0, none⟩)] [P] [] .here (fun _ => true) (fun x hx => by rw [List.length_eq_zero_iff.1 l0] at hx; cases hx)
  rw [all_true] at F4 F5 F6 F7 F8
  rw [← zc] at F6
  rw [← zh] at F7
  refine go ?_
  simp
end Go.Proofs.YtflmbhkjhfmeoaaGreat
