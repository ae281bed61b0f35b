/-
  The program's worlds: May of a new one; the beginning of layer 16's statements.
-/
import Derived.Test.YtckkipangiapbaaGreatEnMay2
import Derived.Test.YtckkipangiapbaaGreatWdBase
namespace Go.Proofs.YtckkipangiapbaaGreat
open Go.SL
set_option linter.unusedVariables false
set_option linter.unusedSimpArgs false
set_option maxHeartbeats 8000000
set_option maxRecDepth 20000
theorem all_true {α : Type} (l : List α) : (l.all fun _ => true) = true := by simp
theorem May_new (d e : Nat) (m : Lay) (mt : Tay) (t : Tab) (g : Good t) (lt : TLaid mt t) (w : Wld) (hw : w = newW t) (lm : Laid m w) (P R : HProp) [hp : RW P d m w] [hr : RT R e mt t] :
    Trip Tryz.prog 36 [.pointer (some ⟨d, 0, none⟩), .pointer (some ⟨e, 0, none⟩)] [P, R] (fun v Ps => v = .bool true ∧ Ps = [P, R]) := by
  refine Trip.of (m := 98) Tryz.func36 rfl rfl rfl ?_
  intro o Rs
  simp only [List.cons_append, List.nil_append, enumFrom]
  haveI : Plans 3 [51, 54] [5, 12, 20, 28, 36, 40, 41, 44] [[0, 1, 2, 3, 4, 5, 6, 7, 8, 9, 10, 11, 12, 13, 14, 15, 16, 17, 18, 19, 20, 21, 22, 23, 24, 25, 26, 27, 28, 29, 30, 31, 32, 33, 34, 35, 36, 37, 38, 39, 40, 41, 42, 43, 44, 45, 46, 47], [0, 1, 2, 3, 4, 5, 6, 7, 8, 9, 10, 11, 12, 13, 14, 15, 16, 17, 18, 19, 20, 21, 22, 23, 24, 25, 26, 27, 28, 29, 30, 31, 32, 33, 34, 35, 36, 37, 38, 39, 41, 42, 43, 40, 44, 45, 46, 47], [0, 1, 2, 3, 4, 5, 6, 7, 8, 9, 10, 11, 12, 13, 14, 15, 16, 17, 18, 19, 20, 21, 22, 23, 24, 25, 26, 27, 28, 29, 30, 31, 32, 33, 34, 35, 36, 37, 38, 39, 41, 42, 43, 44, 40, 45, 46, 47]] := ⟨⟩
  have f : Fresh w := hw ▸ fresh_new g
  have zc : w.chars.length = (w.chars.zip m.dn).length := by rw [List.length_zip, lm.1, Nat.min_self]
  have zh : w.houses.length = (w.houses.zip m.gs).length := by rw [List.length_zip, lm.2, Nat.min_self]
  have hsl : t.shops.length ≤ 60 := by have := g.rs.len; rwa [List.length_map] at this
  have htl : w.tills.length = t.shops.length := by rw [hw]; exact newI_len _
  have hgs : ∀ x ∈ w.tills, 0 ≤ x.gold ∧ x.gold ≤ 1099511627776 := by
    intro x hx
    rw [hw] at hx
    obtain ⟨s, hs, rfl⟩ := List.mem_map.1 hx
    have := (g.so s hs).ti
    simp only; omega
  have F1 := Check_yes e mt t g lt R
  have F2 := lists_yes d m w f P
  have F3 := tills_yes d e m w mt t lt htl (by omega) (fun k x y hx hy => by
    have hb := hgs x (List.mem_of_getElem? hx)
    rw [hw] at hx
    obtain ⟨s, hs, rfl⟩ := newI_get hx
    rw [hs] at hy; cases hy
    exact ⟨rfl, hb⟩) P R
  have hmt : tsum w.tills = w.minted := by rw [hw]; simp [newW, tsum, newG, newI, List.map_map, Function.comp_def]
  have F9 := total_new d m w f hgs P
  rw [hmt] at F9
  have n0 : w.now = 0 := by rw [hw]; rfl
  have nx := f.nx
  have ml := f.ml
  have c0 := f.c0
  have t0 := f.t0
  have h0 := f.h0
  have l0 := f.l0
  refine C.seq (C.region ?_)
  refine gow ?_
  refine ⟨?_, by simp⟩ <;> intros
  rename_i o2 o3
  have F4 := all_thg w.things m.thA m.thC (by omega) P hp.th 72 [.pointer (some ⟨o2, 0, none⟩), .pointer (some ⟨o3, 0, none⟩)] [P] [] .here (fun _ => true) (fun x hx => by rw [List.length_eq_zero_iff.1 t0] at hx; cases hx)
  have F5 := all_mob w.mobs m.moA m.moC (by omega) P hp.mo 75 [.pointer (some ⟨o3, 0, none⟩)] [P, blk o3 25 [.pointer (some ⟨e, 0, none⟩)], R] [blk o3 25 [.pointer (some ⟨e, 0, none⟩)], R] .here (fun _ => true) (fun x hx => by
    obtain ⟨k, hk, hx⟩ := List.getElem_of_mem hx
    have h2 : (newM t.mobs)[k]? = some x := by
      have := List.getElem?_eq_getElem hk
      rw [hx] at this
      rw [← this, hw]; rfl
    obtain ⟨q, hq, he⟩ := newM_get h2
    exact mob_yes e mt t g R o3 P x k q hq he)
  have F6 := all_chr (w.chars.zip m.dn) m.chA m.chC (by omega) P hp.ch 79 [.pointer (some ⟨o2, 0, none⟩), .pointer (some ⟨o3, 0, none⟩)] [P] [] .here (fun _ => true) (fun x hx => by rw [List.length_eq_zero_iff.1 (zc.symm.trans c0)] at hx; cases hx)
  have F7 := all_hse (w.houses.zip m.gs) m.hoA m.hoC (by omega) P hp.ho 82 [.pointer (some ⟨o2, 0, none⟩), .pointer (some ⟨o3, 0, none⟩)] [P] [] .here (fun _ => true) (fun x hx => by rw [List.length_eq_zero_iff.1 (zh.symm.trans h0)] at hx; cases hx)
  have F8 := all_lot w.lots m.loA m.loC (by omega) P hp.lo 85 [.pointer (some ⟨o2, 0, none⟩)] [P] [] .here (fun _ => true) (fun x hx => by rw [List.length_eq_zero_iff.1 l0] at hx; cases hx)
  rw [all_true] at F4 F5 F6 F7 F8
  rw [← zc] at F6
  rw [← zh] at F7
  refine go ?_
  simp
end Go.Proofs.YtckkipangiapbaaGreat
