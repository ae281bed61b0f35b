/-
  Walks and laws joined: WdSlain.
-/
import Derived.Test.YtflmbhkjhfmeoaaGreatQ28
import Derived.Test.YtflmbhkjhfmeoaaGreatQ10
set_option linter.unusedVariables false
set_option linter.unusedSimpArgs false
namespace Go.Proofs.YtflmbhkjhfmeoaaGreat
open Go.SL
set_option maxHeartbeats 8000000
set_option maxRecDepth 20000
section
variable (t d e : Nat) (m : Lay) (w : Wld) (mt : Tay) (tab : Tab) (S : List Sy) (u : Int)
theorem slain_spec (bw : Bw w) (lm : Laid m w) (c k : Nat) (x : Chr) (y : Mob) (p : Mpr) (hx : w.chars[c]? = some x) (hy : w.mobs[k]? = some y) (h1 : 0 ≤ x.xp ∧ x.xp ≤ 1099511627776) (h2 : 0 ≤ x.gold ∧ x.gold ≤ 1099511627776) (h3 : 0 ≤ p.xp ∧ p.xp ≤ 1099511627776) (h4 : 0 ≤ p.gold ∧ p.gold ≤ 1099511627776) (hmi : -4611686018427387904 ≤ w.minted ∧ w.minted ≤ 4611686018427387904) (hpn : p.name.length ≤ 10000) (hS : S.length ≤ 200000) :
    Trip Tryz.prog 275 [.pointer (some ⟨t, 0, none⟩), .int .i64 (c : Int), .int .i64 (k : Int), .agg (mprC p).toArray] [ts t d e S u, wl d m w] (fun v Ps => ∃ m', v = .tuple #[] ∧ Ps = [ts t d e (S ++ (slainA w c k p).2) u, wl d m' (slainA w c k p).1]) := by
  refine Trip.of (m := 165) Tryz.func275 rfl rfl rfl ?_
  intro o Rs
  simp only [List.cons_append, List.nil_append, enumFrom]
  haveI : Plan 4 [45, 50, 53, 55] [0, 1, 2, 3, 4, 5, 6, 7, 8, 9, 10, 11, 12, 13, 14, 15, 16, 17, 18] := ⟨⟩
  haveI : Plan 10 [98, 100, 101] [0, 1, 2, 3, 4, 5, 6, 7, 8, 9] := ⟨⟩
  haveI : Plan 14 [123, 125, 126] [0, 1, 2, 3, 4, 5, 6, 7, 8, 9] := ⟨⟩
  haveI : Plan 15 [132, 135, 137, 138] [0, 1, 2, 3, 4, 5, 6, 7, 8, 9, 10, 11, 12] := ⟨⟩
  haveI : Plan 16 [145, 147, 148, 149] [0, 1, 2, 3, 4, 5, 6, 7, 8, 9] := ⟨⟩
  haveI : Plan 17 [155, 159, 161, 162, 163] [0, 1, 2, 3, 4, 5, 6, 7, 8, 9, 10, 11, 12, 13] := ⟨⟩
  have b1 := bw.nc
  have b2 := bw.nm
  have zc : w.chars.length = (w.chars.zip m.dn).length := by rw [List.length_zip, lm.1, Nat.min_self]
  have hcl := (List.getElem?_eq_some_iff.1 hx).1
  have hkl := (List.getElem?_eq_some_iff.1 hy).1
  obtain ⟨⟨A0, c0⟩, hz, _⟩ := zip_get hx lm.1
  unfold slainA
  simp only [getD_of hx, getD_of hy]
  rw [List.eraseIdx_eq_take_drop_succ]
  refine goW ?_
  refine ⟨?_, by simp⟩ <;> intros
  rename Nat => bp
  refine wopenw (d := d) (m := m) (w := w) fun lm0 => ?_
  simp only [List.cons_append, List.nil_append]
  refine W.cap (A := m.moA) (by exact find_) fun hcap => ?_
  refine W.slice_ro (En := Em) (R := sl Em 113 m.moA m.moC w.mobs) (l := w.mobs) (a := 0) (b := (k : Int)) (ka := .i64) (kb := .i64) (by exact rfl) (.inl ⟨rfl, rfl⟩) (.inr ⟨_, rfl, by exact rfl⟩) reads_sl hcap (by decide) (by omega) (by omega) rfl fun A1 c1 hc1 hR1 => ?_
  have e1 : (w.mobs.drop (0 : Int).toNat).take ((k : Int).toNat - (0 : Int).toNat) = w.mobs.take k := by simp
  rw [e1] at hc1 hR1 ⊢
  have hl1 : (w.mobs.take k).length ≤ 100000 := by rw [List.length_take]; omega
  refine goW ?_
  refine ⟨?_, by simp⟩ <;> intros
  rename_i A2 c2
  refine W.slice_ro (En := Em) (R := sl Em 113 m.moA m.moC w.mobs) (l := w.mobs) (a := (k : Int) + 1) (b := (w.mobs.length : Int)) (ka := .i64) (kb := .i64) (by exact rfl) (.inr ⟨_, rfl, by exact rfl⟩) (.inl ⟨rfl, rfl⟩) reads_sl hcap (by omega) (by omega) (by omega) rfl fun A3 c3 hc3 hR3 => ?_
  have e2 : (w.mobs.drop ((k : Int) + 1).toNat).take ((w.mobs.length : Int).toNat - ((k : Int) + 1).toNat) = w.mobs.drop (k + 1) := by
    rw [show ((k : Int) + 1).toNat = k + 1 from by omega]; exact List.take_of_length_le (by rw [List.length_drop]; omega)
  rw [e2] at hc3 hR3 ⊢
  have hl3 : (w.mobs.drop (k + 1)).length ≤ 100000 := by rw [List.length_drop]; omega
  clear hR1
  refine goW ?_
  refine ⟨?_, by simp⟩ <;> intros
  rename_i A4 c4
  refine cfoldw d { m with moA := A4, moC := c4 } { w with mobs := w.mobs.take k ++ w.mobs.drop (k + 1) } lm ?_
  obtain ⟨m0, hm0⟩ : ∃ m0, m0 = { m with moA := A4, moC := c4 } := ⟨_, rfl⟩
  obtain ⟨w0, hw0⟩ : ∃ w0, w0 = { w with mobs := w.mobs.take k ++ w.mobs.drop (k + 1) } := ⟨_, rfl⟩
  have hmd : m0.dn = m.dn := by rw [hm0]
  have hmg : m0.gs = m.gs := by rw [hm0]
  have hma : m0.chA = m.chA := by rw [hm0]
  have hwc : w0.chars = w.chars := by rw [hw0]
  have hwh : w0.houses = w.houses := by rw [hw0]
  have hwi : w0.minted = w.minted := by rw [hw0]
  clear hR3 hc3 hc1 e1 e2 hcap hz zc
  refine loop (σ := Nat × Wld) (fun s => s.1 ≤ w.chars.length ∧ s.2 = { w0 with chars := (w.chars.take s.1).map (unfoe y.id) ++ w.chars.drop s.1 }) (fun s => [(0, .pointer (some ⟨t, 0, none⟩)), (7, .pointer (some ⟨bp, 0, none⟩)), (8, .pointer (some ⟨bk m0.chA, of m0.chA + c * 10, none⟩)), (9, .int .i64 y.id), (11, .int .i64 (s.1 : Int))])
    (fun s => wl d m0 s.2 :: blk bp 92 (mprC p) :: ts t d e S u :: Rs) (fun s => w.chars.length - s.1) (0, w0) ⟨Nat.zero_le _, by rw [map_zero, ← hwc]⟩ ?_ (by rw [hma]; (repeat (first | exact trivial | refine And.intro rfl ?_ | fail))) (by rw [hm0, hw0]; (exact ent_))
  rintro ⟨i, w2⟩ ⟨hi, el⟩
  simp only at hi el ⊢
  have hlen : w2.chars.length = w.chars.length := by rw [el]; exact map_len _ _ _
  have lm2 : Laid m0 w2 := ⟨by rw [hlen, hmd]; exact lm.1, by rw [el, hmg]; show _ = w0.houses.length; rw [hwh]; exact lm.2⟩
  have zc : w2.chars.length = (w2.chars.zip m0.dn).length := by rw [List.length_zip, lm2.1, Nat.min_self]
  by_cases hi2 : i < w.chars.length
  · obtain ⟨q, hq⟩ : ∃ q, w.chars[i]? = some q := ⟨_, List.getElem?_eq_getElem hi2⟩
    have hq2 : w2.chars[i]? = some q := by rw [el]; exact map_get _ _ _ hq
    obtain ⟨⟨A0, c0⟩, hz, _⟩ := zip_get hq2 lm2.1
    by_cases hf : q.foe = y.id
    · have hu : unfoe y.id q = { q with foe := 0 } := by rw [unfoe, if_pos hf]
      have hs : w2.chars.set i { q with foe := 0 } = (w.chars.take (i + 1)).map (unfoe y.id) ++ w.chars.drop (i + 1) := by rw [el]; exact map_set _ _ _ hq hu.symm
      replace el := Bx.mk el
      replace hs := Bx.mk hs
      refine goW ?_
      (repeat' (first | exact trivial | apply And.intro | intro _))
      all_goals first
        | (exfalso; first | contradiction | omega)
        | exact rnd (i + 1, { w2 with chars := w2.chars.set i { q with foe := 0 } }) ⟨hi2, by rw [hs.get, el.get]⟩ (by simp only; omega) (hh := by simp only; (exact ent_))
    · have hu : unfoe y.id q = q := by rw [unfoe, if_neg hf]
      have hs := map_same w.chars (unfoe y.id) i hq hu
      replace el := Bx.mk el
      replace hs := Bx.mk hs
      refine goW ?_
      (repeat' (first | exact trivial | apply And.intro | intro _))
      all_goals first
        | (exfalso; first | contradiction | omega)
        | exact rnd (i + 1, w2) ⟨hi2, by rw [hs.get, el.get]⟩ (by simp only; omega)
  rw [map_end _ _ i (by omega)] at el
  have hx2 : w2.chars[c]? = some (unfoe y.id x) := by rw [el]; show (w.chars.map _)[c]? = _; rw [List.getElem?_map, hx]; rfl
  have hnm2 : (unfoe y.id x).name = x.name := by unfold unfoe; split <;> rfl
  have hrm2 : (unfoe y.id x).room = x.room := by unfold unfoe; split <;> rfl
  have hxp2 : (unfoe y.id x).xp = x.xp := by unfold unfoe; split <;> rfl
  have hgo2 : (unfoe y.id x).gold = x.gold := by unfold unfoe; split <;> rfl
  have hxl := bw.cn x (List.mem_of_getElem? hx)
  have hwm : w2.mobs = w.mobs.take k ++ w.mobs.drop (k + 1) := by rw [el, hw0]
  have hwi2 : w2.minted = w.minted := by rw [el, hw0]
  have hwv : ∀ (cs : List Chr) (mi : Int), { w with mobs := w.mobs.take k ++ w.mobs.drop (k + 1), chars := cs, minted := mi } = { w2 with chars := cs, minted := mi } := fun cs mi => by rw [el, hw0]
  have hch : w.chars.map (unfoe y.id) = w2.chars := by rw [el]
  simp only [hwv, hch]
  rw [← hnm2, ← hrm2, ← hxp2, ← hgo2]
  rw [← hxp2] at h1
  rw [← hgo2] at h2
  rw [← hnm2] at hxl
  rw [← hwi2] at hmi
  rw [← hwi2]
  generalize unfoe y.id x = x1 at *
  have hcl2 := (List.getElem?_eq_some_iff.1 hx2).1
  obtain ⟨⟨A0, c0⟩, hz, _⟩ := zip_get hx2 lm2.1
  have hcp := cap_len x1.name
  have F1 := say_spec t d e S u x1.name ([89, 111, 117, 32, 115, 108, 97, 121, 32, 97, 32] ++ p.name ++ [46]) (by omega)
  have hlc : w2.chars.length ≤ 1000 := by omega
  have hi3 : w2.chars.length ≤ i := by omega
  have zg : ∀ z : Chr, (w2.chars.set c z).length = ((w2.chars.set c z).zip m0.dn).length := fun z => by rw [List.length_zip, List.length_set, lm2.1, Nat.min_self]
  clear hx hwm hwv hch el hnm2 hrm2 hxp2 hgo2 hw0 hm0 hma hwc hwh hwi hlen bw hy hkl hl1 hl3
  unfold maxGold
  by_cases hA : 1099511627776 < x1.xp + p.xp
  · rw [if_pos hA]
    have z2 := zg { x1 with xp := x1.xp + p.xp }
    have z3 := zg { x1 with xp := 1099511627776 }
    by_cases hB : x1.gold + p.gold ≤ 1099511627776
    · rw [if_pos hB, if_pos hB]
      have z4 := zg { x1 with xp := 1099511627776, gold := x1.gold + p.gold }
      have F2 := others_spec t d e m0 { w2 with chars := w2.chars.set c ({ x1 with xp := 1099511627776, gold := x1.gold + p.gold }), minted := w2.minted + p.gold } (S ++ [(x1.name, [89, 111, 117, 32, 115, 108, 97, 121, 32, 97, 32] ++ p.name ++ [46])]) u x1.room x1.name ([65, 32] ++ p.name ++ [32, 100, 105, 101, 115, 46]) (by rw [List.length_append]; simp only [List.length_cons, List.length_nil]; omega) (by simp only [List.length_set]; omega) ⟨by simp only [List.length_set]; exact lm2.1, lm2.2⟩
      clear zg
      refine goW ?_
      (repeat' (first | exact trivial | apply And.intro | intro _))
      all_goals first
        | (exfalso; first | contradiction | omega)
        | exact ret0 (Ps := [ts t d e (S ++ [(x1.name, [89, 111, 117, 32, 115, 108, 97, 121, 32, 97, 32] ++ p.name ++ [46])] ++ othersL { w2 with chars := w2.chars.set c ({ x1 with xp := 1099511627776, gold := x1.gold + p.gold }), minted := w2.minted + p.gold } x1.room x1.name ([65, 32] ++ p.name ++ [32, 100, 105, 101, 115, 46])) u, wl d m0 { w2 with chars := w2.chars.set c ({ x1 with xp := 1099511627776, gold := x1.gold + p.gold }), minted := w2.minted + p.gold }]) ⟨m0, rfl, by rw [List.append_assoc]; rfl⟩
    · rw [if_neg hB, if_neg hB]
      have F2 := others_spec t d e m0 { w2 with chars := w2.chars.set c ({ x1 with xp := 1099511627776, gold := x1.gold }), minted := w2.minted } (S ++ [(x1.name, [89, 111, 117, 32, 115, 108, 97, 121, 32, 97, 32] ++ p.name ++ [46])]) u x1.room x1.name ([65, 32] ++ p.name ++ [32, 100, 105, 101, 115, 46]) (by rw [List.length_append]; simp only [List.length_cons, List.length_nil]; omega) (by simp only [List.length_set]; omega) ⟨by simp only [List.length_set]; exact lm2.1, lm2.2⟩
      clear zg
      refine goW ?_
      (repeat' (first | exact trivial | apply And.intro | intro _))
      all_goals first
        | (exfalso; first | contradiction | omega)
        | exact ret0 (Ps := [ts t d e (S ++ [(x1.name, [89, 111, 117, 32, 115, 108, 97, 121, 32, 97, 32] ++ p.name ++ [46])] ++ othersL { w2 with chars := w2.chars.set c ({ x1 with xp := 1099511627776, gold := x1.gold }), minted := w2.minted } x1.room x1.name ([65, 32] ++ p.name ++ [32, 100, 105, 101, 115, 46])) u, wl d m0 { w2 with chars := w2.chars.set c ({ x1 with xp := 1099511627776, gold := x1.gold }), minted := w2.minted }]) ⟨m0, rfl, by rw [List.append_assoc]; rfl⟩
  · rw [if_neg hA]
    have z2 := zg { x1 with xp := x1.xp + p.xp }
    by_cases hB : x1.gold + p.gold ≤ 1099511627776
    · rw [if_pos hB, if_pos hB]
      have z4 := zg { x1 with xp := x1.xp + p.xp, gold := x1.gold + p.gold }
      have F2 := others_spec t d e m0 { w2 with chars := w2.chars.set c ({ x1 with xp := x1.xp + p.xp, gold := x1.gold + p.gold }), minted := w2.minted + p.gold } (S ++ [(x1.name, [89, 111, 117, 32, 115, 108, 97, 121, 32, 97, 32] ++ p.name ++ [46])]) u x1.room x1.name ([65, 32] ++ p.name ++ [32, 100, 105, 101, 115, 46]) (by rw [List.length_append]; simp only [List.length_cons, List.length_nil]; omega) (by simp only [List.length_set]; omega) ⟨by simp only [List.length_set]; exact lm2.1, lm2.2⟩
      clear zg
      refine goW ?_
      (repeat' (first | exact trivial | apply And.intro | intro _))
      all_goals first
        | (exfalso; first | contradiction | omega)
        | exact ret0 (Ps := [ts t d e (S ++ [(x1.name, [89, 111, 117, 32, 115, 108, 97, 121, 32, 97, 32] ++ p.name ++ [46])] ++ othersL { w2 with chars := w2.chars.set c ({ x1 with xp := x1.xp + p.xp, gold := x1.gold + p.gold }), minted := w2.minted + p.gold } x1.room x1.name ([65, 32] ++ p.name ++ [32, 100, 105, 101, 115, 46])) u, wl d m0 { w2 with chars := w2.chars.set c ({ x1 with xp := x1.xp + p.xp, gold := x1.gold + p.gold }), minted := w2.minted + p.gold }]) ⟨m0, rfl, by rw [List.append_assoc]; rfl⟩
    · rw [if_neg hB, if_neg hB]
      have F2 := others_spec t d e m0 { w2 with chars := w2.chars.set c ({ x1 with xp := x1.xp + p.xp, gold := x1.gold }), minted := w2.minted } (S ++ [(x1.name, [89, 111, 117, 32, 115, 108, 97, 121, 32, 97, 32] ++ p.name ++ [46])]) u x1.room x1.name ([65, 32] ++ p.name ++ [32, 100, 105, 101, 115, 46]) (by rw [List.length_append]; simp only [List.length_cons, List.length_nil]; omega) (by simp only [List.length_set]; omega) ⟨by simp only [List.length_set]; exact lm2.1, lm2.2⟩
      clear zg
      refine goW ?_
      (repeat' (first | exact trivial | apply And.intro | intro _))
      all_goals first
        | (exfalso; first | contradiction | omega)
        | exact ret0 (Ps := [ts t d e (S ++ [(x1.name, [89, 111, 117, 32, 115, 108, 97, 121, 32, 97, 32] ++ p.name ++ [46])] ++ othersL { w2 with chars := w2.chars.set c ({ x1 with xp := x1.xp + p.xp, gold := x1.gold }), minted := w2.minted } x1.room x1.name ([65, 32] ++ p.name ++ [32, 100, 105, 101, 115, 46])) u, wl d m0 { w2 with chars := w2.chars.set c ({ x1 with xp := x1.xp + p.xp, gold := x1.gold }), minted := w2.minted }]) ⟨m0, rfl, by rw [List.append_assoc]; rfl⟩
end
end Go.Proofs.YtflmbhkjhfmeoaaGreat
