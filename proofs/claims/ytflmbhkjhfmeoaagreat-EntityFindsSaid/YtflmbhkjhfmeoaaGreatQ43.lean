/-
  Walks and laws joined: WdBuy.
-/
import Derived.Test.YtflmbhkjhfmeoaaGreatQ28
import Derived.Test.YtflmbhkjhfmeoaaGreatQ10
import Derived.Test.YtflmbhkjhfmeoaaGreatQ39
set_option linter.unusedVariables false
set_option linter.unusedSimpArgs false
namespace Go.Proofs.YtflmbhkjhfmeoaaGreat
open Go.SL
set_option maxHeartbeats 8000000
set_option maxRecDepth 20000
theorem zlen {α β : Type} {l : List α} {m : List β} (h : m.length = l.length) : l.length = (l.zip m).length := by rw [List.length_zip, h, Nat.min_self]
theorem drop_find {α : Type} {f : α → Bool} {l : List α} {k : Nat} {x : α} (h : l[k]? = some x) : (l.drop k).find? f = if f x then some x else (l.drop (k + 1)).find? f := by
  have hk := (List.getElem?_eq_some_iff.1 h)
  rw [List.drop_eq_getElem_cons hk.1, hk.2, List.find?_cons]
  cases f x <;> rfl
section
variable (t d e : Nat) (m : Lay) (w : Wld) (mt : Tay) (tab : Tab) (S : List Sy) (u : Int)
theorem Buy_spec (bw : Bw w) (bt : Bt tab) (ok : Okt tab) (lm : Laid m w) (lt : TLaid mt tab) (R : HProp) [hr : RT R e mt tab] (name word : Tx) (hn : name.length ≤ 10000) (hw : word.length ≤ 10000) (hb : ∀ x ∈ w.chars, 0 ≤ x.gold ∧ x.gold ≤ 4611686018427387904) (hti : ∀ x ∈ w.tills, 0 ≤ x.gold ∧ x.gold ≤ 4611686018427387904) (hnx : 0 ≤ w.next ∧ w.next ≤ 4611686018427387904) (hS : S.length ≤ 200000) :
    Trip Tryz.prog 224 [.pointer (some ⟨t, 0, none⟩), str name, str word] [ts t d e S u, wl d m w, R] (fun v Ps => ∃ m', v = .tuple #[] ∧ Ps = [ts t d e (S ++ (buyA tab w name word).2) u, wl d m' (buyA tab w name word).1, R]) := by
  refine Trip.of (m := 183) Tryz.func224 rfl rfl rfl ?_
  intro o Rs
  simp only [List.cons_append, List.nil_append, enumFrom]
  haveI : Plan 8 [50, 54, 57, 61, 64] [0, 1, 2, 3, 4, 5, 6, 7, 8, 9, 10, 11, 12, 13, 14, 15, 16, 17, 18, 19] := ⟨⟩
  haveI : Plan 16 [106, 109, 113, 117, 120, 124, 126] [0, 1, 2, 3, 4, 5, 6, 7, 8, 9, 10, 11, 12, 13, 14, 15, 16, 17, 18, 19, 20, 21, 22, 23, 24, 25, 26, 27, 28, 29, 30, 31] := ⟨⟩
  haveI : Plan 19 [144, 146] [0, 1, 2, 3, 4, 5, 6, 7, 8, 9] := ⟨⟩
  unfold buyA
  have zc : w.chars.length = (w.chars.zip m.dn).length := by rw [List.length_zip, lm.1, Nat.min_self]
  have zs : tab.shops.length = (tab.shops.zip mt.it).length := by rw [List.length_zip, lt.2, Nat.min_self]
  have F1 := on_spec t d e m w S u bw lm name
  rcases hc : onI w name with _ | c
  · rw [hc] at F1
    simp only [iv] at F1 ⊢
    refine goW ?_
    refine ⟨?_, by simp⟩ <;> intros
    exact ret0 ⟨m, rfl, by rw [List.append_nil]⟩
  obtain ⟨x, hx, hon, hnm⟩ := on_get hc
  have hcl := (List.getElem?_eq_some_iff.1 hx).1
  obtain ⟨⟨A0, c0⟩, hz, _⟩ := zip_get hx lm.1
  rw [hc] at F1
  simp only [iv, getD_of hx] at F1 ⊢
  have F2 := shop_spec t d e m w mt tab S u bw bt lm lt R name c x hx (by omega)
  rcases hsh : shopI tab w x.room with _ | ⟨s, k⟩
  · rw [hsh] at F2
    simp only [Option.isNone_none, if_true] at F2 ⊢
    refine goW ?_
    refine ⟨?_, by simp⟩ <;> intros
    exact ret0 ⟨m, rfl, rfl⟩
  rw [hsh] at F2
  simp only [Option.isNone_some, Bool.false_eq_true, if_false, List.append_nil] at F2 ⊢
  obtain ⟨⟨sh, hsx⟩, y, hy⟩ := shop_get hsh
  have hkl := (List.getElem?_eq_some_iff.1 hy).1
  have hsl := (List.getElem?_eq_some_iff.1 hsx).1
  obtain ⟨⟨A1, c1⟩, hzs, _⟩ := zip_get hsx lt.2
  have hil := ok.sl sh (List.mem_of_getElem? hsx)
  have hRi : Reads R E64 A1 sh.items := hr.it _ (List.mem_of_getElem? hzs)
  haveI : Rd R E64 A1 sh.items := ⟨hRi⟩
  have b4 := bt.np
  have hpln : (itemsP tab s).length = sh.items.length := by unfold itemsP; rw [getD_of hsx, List.length_map]
  refine goW ?_
  refine ⟨?_, by simp⟩ <;> intros
  clear F1 F2
  refine loop (σ := Int) (fun i => -1 ≤ i ∧ i < sh.items.length) (fun i => [(0, .pointer (some ⟨t, 0, none⟩)), (1, str name), (2, str word), (6, .int .i64 (c : Int)), (7, .int .i64 (s : Int)), (8, .int .i64 (k : Int)), (9, .int .i64 (iv (((itemsP tab s).drop (i + 1).toNat).find? (fun p => (tab.protos.getD p default).name == word)))), (10, .int .i64 i)])
    (fun _ => ts t d e S u :: wl d m w :: R :: Rs) (fun i => (i + 1).toNat) ((sh.items.length : Int) - 1) ⟨by omega, by omega⟩ ?_ ⟨rfl, rfl, rfl, rfl, rfl, rfl, congrArg (fun z => some (Value.int .i64 z)) (by rw [List.drop_eq_nil_of_le (by rw [hpln]; omega)]; rfl), rfl, trivial⟩
  rintro i ⟨h1, h2⟩
  by_cases hi : 0 ≤ i
  · obtain ⟨id, hid⟩ : ∃ id, sh.items[i.toNat]? = some id := ⟨_, List.getElem?_eq_getElem (by omega)⟩
    obtain ⟨p, hp⟩ := ok.it sh (List.mem_of_getElem? hsx) id (List.mem_of_getElem? hid)
    obtain ⟨q, hq, _⟩ := find_get hp
    have hpl := find_lt hp
    have F1 := Proto_spec e mt tab id (by omega) R
    rw [hp] at F1
    simp only [iv] at F1
    have hip : (itemsP tab s)[i.toNat]? = some p := by unfold itemsP; rw [getD_of hsx, List.getElem?_map, hid]; simp [hp]
    have hdr := drop_find (f := fun p => (tab.protos.getD p default).name == word) hip
    rw [getD_of hq] at hdr
    have hi2 : (i + 1).toNat = i.toNat + 1 := by omega
    have hi3 : (i - 1 + 1).toNat = i.toNat := by omega
    by_cases hnw : q.name = word
    · rw [if_pos (by simpa using hnw)] at hdr
      refine goW ?_
      (repeat' (first | exact trivial | apply And.intro | intro _))
      all_goals first
        | (exfalso; first | contradiction | omega)
        | exact rnd (i - 1) ⟨by omega, by omega⟩ (by omega) ⟨rfl, rfl, rfl, rfl, rfl, rfl, congrArg (fun z => some (Value.int .i64 z)) (by rw [hi3, hdr]; rfl), rfl, trivial⟩
    · rw [if_neg (by simpa using hnw)] at hdr
      refine goW ?_
      (repeat' (first | exact trivial | apply And.intro | intro _))
      all_goals first
        | (exfalso; first | contradiction | omega)
        | exact rnd (i - 1) ⟨by omega, by omega⟩ (by omega) ⟨rfl, rfl, rfl, rfl, rfl, rfl, congrArg (fun z => some (Value.int .i64 z)) (by rw [hi3, hdr, hi2]), rfl, trivial⟩
  have hi1 : i = -1 := by omega
  subst hi1
  rw [show ((-1 : Int) + 1).toNat = 0 from rfl, List.drop_zero]
  cases hfi : (itemsP tab s).find? (fun p => (tab.protos.getD p default).name == word) with
  | none =>
    simp only [iv]
    have F3 := say_spec t d e S u name [84, 104, 101, 121, 32, 100, 111, 32, 110, 111, 116, 32, 115, 101, 108, 108, 32, 116, 104, 97, 116, 46] (by omega)
    refine goW ?_
    refine ⟨?_, by simp⟩ <;> intros
    exact ret0 ⟨m, rfl, rfl⟩
  | some p =>
    simp only [iv]
    obtain ⟨q, hq⟩ : ∃ q, tab.protos[p]? = some q := by
      have hm := List.mem_of_find?_eq_some hfi
      unfold itemsP at hm
      rw [getD_of hsx] at hm
      obtain ⟨id, hid, he⟩ := List.mem_map.1 hm
      obtain ⟨p2, hp2⟩ := ok.it sh (List.mem_of_getElem? hsx) id hid
      obtain ⟨q, hq, _⟩ := find_get hp2
      rw [hp2] at he
      exact ⟨q, by rw [← he]; exact hq⟩
    have hpl := (List.getElem?_eq_some_iff.1 hq).1
    have hpr := ok.pp q (List.mem_of_getElem? hq)
    have hql := bt.pn q (List.mem_of_getElem? hq)
    have hg := hb x (List.mem_of_getElem? hx)
    have htl := hti y (List.mem_of_getElem? hy)
    have F3 := load_spec t d e m w S u bw name
    rw [getD_of hq, getD_of hy]
    by_cases hld : 10 ≤ loadN w name
    · rw [if_pos hld]
      have F4 := say_spec t d e S u name [89, 111, 117, 32, 99, 97, 110, 110, 111, 116, 32, 99, 97, 114, 114, 121, 32, 109, 111, 114, 101, 46] (by omega)
      refine goW ?_
      refine ⟨?_, by simp⟩ <;> intros
      exact ret0 ⟨m, rfl, rfl⟩
    rw [if_neg hld]
    have F4 := Move_spec x.gold y.gold q.price (by omega) (by omega) (by omega)
    have F5 := say_spec t d e S u name [89, 111, 117, 32, 99, 97, 110, 110, 111, 116, 32, 112, 97, 121, 46] (by omega)
    have F6 := say_spec t d e S u name [84, 104, 101, 114, 101, 32, 97, 114, 101, 32, 116, 111, 111, 32, 109, 97, 110, 121, 32, 116, 104, 105, 110, 103, 115, 46] (by omega)
    have F7 := say_spec t d e S u name ([89, 111, 117, 32, 98, 117, 121, 32, 97, 32] ++ q.name ++ [46]) (by omega)
    have b5 := bw.nt
    have F8 := Make_spec d m w (by omega) hnx.2 hnx.1 q.id ⟨0, 0, 2, 0, name⟩
    generalize moveN x.gold y.gold q.price = mv at *
    obtain ⟨a, b, okb⟩ := mv
    simp only at F4 ⊢
    cases okb with
    | true =>
      rw [if_neg (by simp)]
      cases hcm : canMake w with
      | false =>
        rw [hcm, makeIf, hcm, if_neg (by decide)] at F8
        rw [if_pos rfl]
        refine goW ?_
        (repeat' (first | exact trivial | apply And.intro | intro _))
        all_goals first
          | (exfalso; first | contradiction | omega)
          | exact ret0 ⟨_, rfl, rfl⟩
      | true =>
        rw [hcm, makeIf, hcm, if_pos rfl] at F8
        rw [if_neg (by decide)]
        obtain ⟨w2, hw2⟩ : ∃ w2, w2 = makeW w q.id 2 0 name := ⟨_, rfl⟩
        have hx2 : w2.chars[c]? = some x := by rw [hw2]; exact hx
        have hy2 : w2.tills[k]? = some y := by rw [hw2]; exact hy
        have hcl2 := (List.getElem?_eq_some_iff.1 hx2).1
        have hkl2 := (List.getElem?_eq_some_iff.1 hy2).1
        have hl2 : w2.chars.length ≤ 1000 := by rw [hw2]; exact bw.nc
        have hl3 : w2.tills.length ≤ 1000 := by rw [hw2]; exact bw.ni
        rw [← hw2] at F8 ⊢
        rw [setC_eq hx2, setI_eq (w := { w2 with chars := w2.chars.set c { x with gold := a } }) hy2]
        refine goW ?_
        (repeat' (first | exact trivial | apply And.intro | intro _))
        all_goals first
          | (exfalso; first | contradiction | omega)
          | skip
        all_goals
          refine wwl (d := d) (t := w2) fun lm2 => ?_
          obtain ⟨⟨A2, c2⟩, hz2, _⟩ := zip_get hx2 lm2.1
          have zc2 := zlen lm2.1
          refine goW ?_
          (repeat' (first | exact trivial | apply And.intro | intro _))
          all_goals exact ret0 ⟨_, rfl, rfl⟩
    | false =>
      by_cases h0 : q.price = 0
      · rw [if_neg (by simp [h0])]
        cases hcm : canMake w with
        | false =>
          rw [hcm, makeIf, hcm, if_neg (by decide)] at F8
          rw [if_pos rfl]
          refine goW ?_
          (repeat' (first | exact trivial | apply And.intro | intro _))
          all_goals first
            | (exfalso; first | contradiction | omega)
            | exact ret0 ⟨_, rfl, rfl⟩
        | true =>
          rw [hcm, makeIf, hcm, if_pos rfl] at F8
          rw [if_neg (by decide)]
          obtain ⟨w2, hw2⟩ : ∃ w2, w2 = makeW w q.id 2 0 name := ⟨_, rfl⟩
          have hx2 : w2.chars[c]? = some x := by rw [hw2]; exact hx
          have hy2 : w2.tills[k]? = some y := by rw [hw2]; exact hy
          have hcl2 := (List.getElem?_eq_some_iff.1 hx2).1
          have hkl2 := (List.getElem?_eq_some_iff.1 hy2).1
          have hl2 : w2.chars.length ≤ 1000 := by rw [hw2]; exact bw.nc
          have hl3 : w2.tills.length ≤ 1000 := by rw [hw2]; exact bw.ni
          rw [← hw2] at F8 ⊢
          rw [setC_eq hx2, setI_eq (w := { w2 with chars := w2.chars.set c { x with gold := a } }) hy2]
          refine goW ?_
          (repeat' (first | exact trivial | apply And.intro | intro _))
          all_goals first
            | (exfalso; first | contradiction | omega)
            | skip
          all_goals
            refine wwl (d := d) (t := w2) fun lm2 => ?_
            obtain ⟨⟨A2, c2⟩, hz2, _⟩ := zip_get hx2 lm2.1
            have zc2 := zlen lm2.1
            refine goW ?_
            (repeat' (first | exact trivial | apply And.intro | intro _))
            all_goals exact ret0 ⟨_, rfl, rfl⟩
      · rw [if_pos ⟨rfl, h0⟩]
        refine goW ?_
        (repeat' (first | exact trivial | apply And.intro | intro _))
        all_goals first
          | (exfalso; first | contradiction | omega)
          | exact ret0 ⟨_, rfl, rfl⟩
end
end Go.Proofs.YtflmbhkjhfmeoaaGreat
