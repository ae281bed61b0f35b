/-
  Walks and laws joined: WdBid.
-/
import Derived.Test.YtflmbhkjhfmeoaaGreatQ20
import Derived.Test.YtflmbhkjhfmeoaaGreatQ10
import Derived.Test.YtflmbhkjhfmeoaaGreatQ46
set_option linter.unusedVariables false
set_option linter.unusedSimpArgs false
namespace Go.Proofs.YtflmbhkjhfmeoaaGreat
open Go.SL
set_option maxHeartbeats 8000000
set_option maxRecDepth 20000
theorem _root_.Go.SL.C.cutb {P : Program} {n : Nat} {o : Outer} {Q : Post} {xs : Env} {hs : List HProp} {σ : Type} (I : σ → Prop) (X : σ → Env) (H : σ → List HProp) {id : Nat} {c y : Code} (h1 : C P n o (Exit.inBlock id (Exit.then (fun a w => ∃ s, I s ∧ Ok n (X s) a ∧ Sat o w (H s)) Q)) c xs hs)
    (h2 : ∀ s, I s → C P n o Q y (X s) (H s)) : C P n o (Exit.inBlock id (Exit.then (y.wp P Q) Q)) c xs hs := by
  refine ⟨fun a w ha hw => wp_mono (h1 a w ha hw) ?_⟩
  intro e a' w' hq
  cases e with
  | normal => obtain ⟨s, h0, hx, hh⟩ := hq; exact h2 s h0 a' w' hx hh
  | exit id' =>
    by_cases h : id' = id
    · simp only [Exit.inBlock, if_pos h] at hq ⊢
      obtain ⟨s, h0, hx, hh⟩ := hq; exact h2 s h0 a' w' hx hh
    · simp only [Exit.inBlock, if_neg h] at hq ⊢
      exact hq
  | goto l => exact hq
  | ret => exact hq
  | panic ch => exact hq
  | outgrown => exact hq
theorem findIdx_set {α : Type} {p : α → Bool} : ∀ {l : List α} {k : Nat} {x x' : α}, l[k]? = some x → p x' = p x → (l.set k x').findIdx? p = l.findIdx? p
  | [], _, _, _, h, _ => by simp at h
  | a :: l, 0, x, x', h, hp => by
    simp only [List.getElem?_cons_zero, Option.some.injEq] at h
    subst h
    simp only [List.set_cons_zero, List.findIdx?_cons, hp]
  | a :: l, k + 1, x, x', h, hp => by
    simp only [List.getElem?_cons_succ] at h
    simp only [List.set_cons_succ, List.findIdx?_cons, findIdx_set h hp]
theorem on_setc {w : Wld} {k : Nat} {x x' : Chr} (hx : w.chars[k]? = some x) (hn : x'.name = x.name) (ho : x'.on = x.on) (name : Tx) : onI { w with chars := w.chars.set k x' } name = onI w name := by
  have h1 : charI { w with chars := w.chars.set k x' } name = charI w name := findIdx_set hx (by simp only [hn])
  unfold onI
  rw [h1]
  cases hc : charI w name with
  | none => rfl
  | some c =>
    simp only
    by_cases hkc : k = c
    · subst hkc
      rw [getD_of hx, getD_of (List.getElem?_set_self (List.getElem?_eq_some_iff.1 hx).1), ho]
    · obtain ⟨y, hy, _⟩ := find_get hc
      rw [getD_of hy, getD_of (x := y) (by rw [List.getElem?_set_ne hkc]; exact hy)]
def fullB (w : Wld) (l : Lot) : Option Nat → Bool
  | none => false
  | some d => decide (maxGold < (w.chars.getD d default).gold + l.bid)
def backW2 (w : Wld) (l : Lot) : Option Nat → Wld
  | none => w
  | some d => setC w d fun y => { y with gold := y.gold + l.bid }
def bidB (num : Tx → Int × Bool) (t : Tab) (w : Wld) (name s1 s2 : Tx) : Wld × List Sy := match onI w name with
  | none => (w, [])
  | some c =>
    if roomK t w c ≠ 5 then (w, noHall name)
    else match (if (num s1).2 then (pos (fun l : Lot => l.id == (num s1).1) w.lots).getLast? else none) with
      | none => (w, [(name, [84, 104, 101, 114, 101, 32, 105, 115, 32, 110, 111, 32, 115, 117, 99, 104, 32, 108, 111, 116, 46])])
      | some at_ =>
        let l := w.lots.getD at_ default
        if l.seller = name then (w, [(name, [73, 116, 32, 105, 115, 32, 121, 111, 117, 114, 115, 46])])
        else match muchN num s2 with
          | none => (w, howMuch name)
          | some x =>
            if x < l.min ∨ x ≤ l.bid then (w, [(name, [66, 105, 100, 32, 109, 111, 114, 101, 46])])
            else
              let gold := (w.chars.getD c default).gold + if l.bidder = name then l.bid else 0
              if gold < x then (w, [(name, [89, 111, 117, 32, 104, 97, 118, 101, 32, 110, 111, 116, 32, 115, 111, 32, 109, 117, 99, 104, 46])])
              else
                let back := if l.bidder = [] ∨ l.bidder = name then none else charI w l.bidder
                if fullB w l back then (w, [(name, [84, 104, 101, 121, 32, 99, 97, 110, 110, 111, 116, 32, 116, 97, 107, 101, 32, 105, 116, 32, 98, 97, 99, 107, 46])])
                else
                  let w2 := setC (backW2 w l back) c fun y => { y with gold := gold - x }
                  (setL w2 at_ fun l => { l with bid := x, bidder := name }, [(name, [89, 111, 117, 32, 98, 105, 100, 32] ++ nT x ++ [46])] ++ if l.bidder ≠ [] ∧ l.bidder ≠ name ∧ (onI w l.bidder).isSome then [(l.bidder, [89, 111, 117, 32, 97, 114, 101, 32, 111, 117, 116, 98, 105, 100, 46])] else [])
theorem bidA_eq : bidA = bidB := rfl
section
variable (t d e : Nat) (m : Lay) (w : Wld) (mt : Tay) (tab : Tab) (S : List Sy) (u : Int)
theorem Bid_spec (bw : Bw w) (bt : Bt tab) (lm : Laid m w) (R : HProp) [hr : RT R e mt tab] (name s1 s2 : Tx) (hn : name.length ≤ 10000) (hb : ∀ x ∈ w.chars, 0 ≤ x.gold ∧ x.gold ≤ 1099511627776) (hlb : ∀ l ∈ w.lots, (0 ≤ l.bid ∧ l.bid ≤ 1099511627776) ∧ l.bidder.length ≤ 1000) (hS : S.length ≤ 200000) :
    Trip Tryz.prog 234 [.pointer (some ⟨t, 0, none⟩), str name, str s1, str s2] [ts t d e S u, wl d m w, R] (fun v Ps => v = .tuple #[] ∧ Ps = [ts t d e (S ++ (bidA numM tab w name s1 s2).2) u, wl d m (bidA numM tab w name s1 s2).1, R]) := by
  refine Trip.of (m := 258) Tryz.func234 rfl rfl rfl ?_
  intro o Rs
  simp only [List.cons_append, List.nil_append, enumFrom]
  haveI : Plan 23 [141, 145] [0, 1, 2, 3, 4, 5, 6, 7, 8, 9] := ⟨⟩
  haveI : Plan 27 [187, 190, 194, 198, 199] [0, 1, 2, 3, 4, 5, 6, 7, 8, 9, 10, 11, 12, 13, 14, 15, 16, 17, 18] := ⟨⟩
  rw [bidA_eq]
  unfold bidB
  have zc : w.chars.length = (w.chars.zip m.dn).length := by rw [List.length_zip, lm.1, Nat.min_self]
  have F1 := on_spec t d e m w S u bw lm name
  rcases hc : onI w name with _ | c
  · rw [hc] at F1
    simp only [iv] at F1 ⊢
    refine goW ?_
    refine ⟨?_, by simp⟩ <;> intros
    exact ret0 ⟨rfl, by rw [List.append_nil]⟩
  obtain ⟨x, hx, hon, hnm⟩ := on_get hc
  have hcl := (List.getElem?_eq_some_iff.1 hx).1
  obtain ⟨⟨A0, c0⟩, hz, _⟩ := zip_get hx lm.1
  rw [hc] at F1
  simp only [iv, getD_of hx] at F1 ⊢
  have F2 := hall_spec t d e m w mt tab S u bw bt lm R name c x hx (by omega)
  by_cases hrk : roomK tab w c = 5
  case neg =>
    rw [if_pos hrk]
    rw [if_neg hrk, decide_eq_false hrk] at F2
    refine goW ?_
    refine ⟨?_, by simp⟩ <;> intros
    exact ret0 ⟨rfl, rfl⟩
  rw [if_pos hrk, List.append_nil, decide_eq_true hrk] at F2
  rw [if_neg (by simp [hrk])]
  clear hrk
  have F3 := RefNumber_spec s1
  have hnr := num_range s1
  generalize numM s1 = q0 at *
  obtain ⟨id, ok⟩ := q0
  simp only at F3 hnr ⊢
  have b1 := bw.nl
  refine goW ?_
  refine ⟨?_, by simp⟩ <;> intros
  clear F1 F2 F3
  refine C.cutb (σ := Unit) (fun _ => True) (fun _ => [(0, .pointer (some ⟨t, 0, none⟩)), (1, str name), (3, str s2), (8, .int .i64 (c : Int)), (11, .int .i64 (iv (if ok then (pos (fun q : Lot => q.id == id) w.lots).getLast? else none)))]) (fun _ => ts t d e S u :: wl d m w :: R :: Rs) ?_ ?_
  · refine loop (σ := Nat) (fun k => k ≤ w.lots.length ∧ (ok = false → k = 0)) (fun k => [(0, .pointer (some ⟨t, 0, none⟩)), (1, str name), (3, str s2), (8, .int .i64 (c : Int)), (9, .int .i64 id), (10, .bool ok), (11, .int .i64 (iv (lastP (fun q : Lot => q.id == id) w.lots k))), (12, .int .i64 (k : Int))])
      (fun _ => ts t d e S u :: wl d m w :: R :: Rs) (fun k => w.lots.length - k) 0 ⟨Nat.zero_le _, fun _ => rfl⟩ ?_
    rintro k ⟨h1, h2⟩
    by_cases hk : k < w.lots.length ∧ ok = true
    · obtain ⟨hk, hok⟩ := hk
      subst hok
      obtain ⟨q, hq⟩ : ∃ q, w.lots[k]? = some q := ⟨_, List.getElem?_eq_getElem hk⟩
      by_cases hqi : q.id = id
      · have hst := lastP_yes (f := fun q : Lot => q.id == id) hq (by simpa using hqi)
        replace hst := Bx.mk hst
        subst hqi
        refine goW ?_
        (repeat' (first | exact trivial | apply And.intro | intro _))
        all_goals first
          | (exfalso; first | contradiction | omega)
          | exact rnd (k + 1) ⟨hk, fun h => by cases h⟩ (by omega) (hx := by rw [hst.get]; (repeat (first | exact trivial | refine And.intro rfl ?_ | fail)))
      · have hst := lastP_no (f := fun q : Lot => q.id == id) hq (by simpa using hqi)
        replace hst := Bx.mk hst
        refine goW ?_
        (repeat' (first | exact trivial | apply And.intro | intro _))
        all_goals first
          | (exfalso; first | contradiction | exact hqi (by assumption) | omega)
          | exact rnd (k + 1) ⟨hk, fun h => by cases h⟩ (by omega) (hx := by rw [hst.get]; (repeat (first | exact trivial | refine And.intro rfl ?_ | fail)))
    cases ok with
    | false =>
      have hk0 := h2 rfl
      subst hk0
      have hl0 : lastP (fun q : Lot => q.id == id) w.lots 0 = none := rfl
      rw [hl0]
      simp only [Bool.false_eq_true, if_false, iv]
      refine goW ?_
      (repeat' (first | exact trivial | apply And.intro | intro _))
      all_goals exact jn () trivial
    | true =>
      have hkl : w.lots.length ≤ k := by simp at hk; omega
      have hll : lastP (fun q : Lot => q.id == id) w.lots k = (pos (fun q : Lot => q.id == id) w.lots).getLast? := by unfold lastP; rw [List.take_of_length_le hkl]
      rw [hll]
      simp only [if_true]
      clear hk h2 hll
      generalize iv (pos (fun q : Lot => q.id == id) w.lots).getLast? = at0
      refine goW ?_
      (repeat' (first | exact trivial | apply And.intro | intro _))
      all_goals first
        | (exfalso; omega)
        | exact jn () trivial
  rintro _ _
  have hat0 : ∀ at0, (if ok then (pos (fun q : Lot => q.id == id) w.lots).getLast? else none) = some at0 → ∃ l, w.lots[at0]? = some l := by
    intro at0 h
    split at h
    · obtain ⟨l, hl, _⟩ := lastP_get h
      exact ⟨l, hl⟩
    · cases h
  generalize (if ok then (pos (fun q : Lot => q.id == id) w.lots).getLast? else none) = at1 at *
  refine gor ?_
  (repeat' (first | exact trivial | apply And.intro | intro _))
  cases at1 with
  | none =>
    simp only [iv]
    have F3 := say_spec t d e S u name [84, 104, 101, 114, 101, 32, 105, 115, 32, 110, 111, 32, 115, 117, 99, 104, 32, 108, 111, 116, 46] (by omega)
    refine goW ?_
    refine ⟨?_, by simp⟩ <;> intros
    exact ret0 ⟨rfl, rfl⟩
  | some at0 =>
    obtain ⟨l, hl⟩ := hat0 at0 rfl
    have hal := (List.getElem?_eq_some_iff.1 hl).1
    clear hat0
    simp only [iv, getD_of hl]
    obtain ⟨hlb1, hlb2⟩ := hlb l (List.mem_of_getElem? hl)
    have hg := hb x (List.mem_of_getElem? hx)
    refine C.join (σ := Unit) (fun _ => True) (fun _ => [(0, .pointer (some ⟨t, 0, none⟩)), (1, str name), (3, str s2), (8, .int .i64 (c : Int)), (11, .int .i64 (at0 : Int))]) (fun _ => ts t d e S u :: wl d m w :: R :: Rs) ?_ ?_
    · refine goW ?_
      (repeat' (first | exact trivial | apply And.intro | intro _))
      all_goals first
        | (exfalso; omega)
        | exact jn () trivial
    rintro _ _
    refine gor ?_
    (repeat' (first | exact trivial | apply And.intro | intro _))
    refine C.join (σ := Unit) (fun _ => ¬ l.seller = name) (fun _ => [(0, .pointer (some ⟨t, 0, none⟩)), (1, str name), (3, str s2), (8, .int .i64 (c : Int)), (13, .pointer (some ⟨bk m.loA, of m.loA + at0 * 7, none⟩))]) (fun _ => ts t d e S u :: wl d m w :: R :: Rs) ?_ ?_
    · have F1 := say_spec t d e S u name [73, 116, 32, 105, 115, 32, 121, 111, 117, 114, 115, 46] (by omega)
      by_cases hse : l.seller = name
      · rw [if_pos hse]
        refine goW ?_
        (repeat' (first | exact trivial | apply And.intro | intro _))
        all_goals first
          | (exfalso; exact absurd hse (by assumption))
          | exact ret0 ⟨rfl, rfl⟩
      · rw [if_neg hse]
        refine goW ?_
        (repeat' (first | exact trivial | apply And.intro | intro _))
        all_goals first
          | (exfalso; exact hse (by assumption))
          | exact jn () hse
    rintro _ hse
    rw [if_neg hse]
    have F4 := much_spec t d e S u name s2 (by omega)
    cases hm : muchN numM s2 with
    | none =>
      rw [hm] at F4
      simp only [Option.isNone_none, if_true, Option.getD_none] at F4 ⊢
      clear hm
      refine goW ?_
      refine ⟨?_, by simp⟩ <;> intros
      exact ret0 ⟨rfl, rfl⟩
    | some n =>
      have hnr := num_range s2
      have hn1 : 1 ≤ n ∧ n ≤ 1099511627776 := by
        unfold muchN at hm
        split at hm
        · cases hm
        · rename_i h
          simp only [not_or, Option.some.injEq] at h hm
          omega
      rw [hm] at F4
      simp only [Option.isNone_some, Bool.false_eq_true, if_false, Option.getD_some, List.append_nil] at F4 ⊢
      clear hm hnr
      refine gor ?_
      (repeat' (first | exact trivial | apply And.intro | intro _))
      refine C.join (σ := Unit) (fun _ => True) (fun _ => [(0, .pointer (some ⟨t, 0, none⟩)), (1, str name), (8, .int .i64 (c : Int)), (13, .pointer (some ⟨bk m.loA, of m.loA + at0 * 7, none⟩)), (14, .int .i64 n)]) (fun _ => ts t d e S u :: wl d m w :: R :: Rs) ?_ ?_
      · refine goW ?_
        refine ⟨?_, by simp⟩ <;> intros
        exact jn () trivial
      rintro _ _
      clear F4
      refine gor ?_
      (repeat' (first | exact trivial | apply And.intro | intro _))
      refine C.join (σ := Unit) (fun _ => ¬ (n < l.min ∨ n ≤ l.bid)) (fun _ => [(0, .pointer (some ⟨t, 0, none⟩)), (1, str name), (8, .int .i64 (c : Int)), (13, .pointer (some ⟨bk m.loA, of m.loA + at0 * 7, none⟩)), (14, .int .i64 n)]) (fun _ => ts t d e S u :: wl d m w :: R :: Rs) ?_ ?_
      · have F5 := say_spec t d e S u name [66, 105, 100, 32, 109, 111, 114, 101, 46] (by omega)
        by_cases hmb : n < l.min ∨ n ≤ l.bid
        · rw [if_pos hmb]
          refine goW ?_
          (repeat' (first | exact trivial | apply And.intro | intro _))
          all_goals first
            | (exfalso; omega)
            | exact ret0 ⟨rfl, rfl⟩
        · rw [if_neg hmb]
          refine goW ?_
          (repeat' (first | exact trivial | apply And.intro | intro _))
          all_goals first
            | (exfalso; omega)
            | exact jn () hmb
      rintro _ hmb
      rw [if_neg hmb]
      obtain ⟨gold, hgold⟩ : ∃ gold, gold = x.gold + (if l.bidder = name then l.bid else 0) := ⟨_, rfl⟩
      rw [← hgold]
      have hg2 : 0 ≤ gold ∧ gold ≤ 2199023255552 := by rw [hgold]; split <;> omega
      refine gor ?_
      (repeat' (first | exact trivial | apply And.intro | intro _))
      refine C.join (σ := Unit) (fun _ => True) (fun _ => [(0, .pointer (some ⟨t, 0, none⟩)), (1, str name), (8, .int .i64 (c : Int)), (13, .pointer (some ⟨bk m.loA, of m.loA + at0 * 7, none⟩)), (14, .int .i64 n), (15, .int .i64 gold)]) (fun _ => ts t d e S u :: wl d m w :: R :: Rs) ?_ ?_
      · by_cases hbn : l.bidder = name
        · rw [if_pos hbn] at hgold
          replace hgold := Bx.mk hgold
          refine goW ?_
          (repeat' (first | exact trivial | apply And.intro | intro _))
          all_goals first
            | (exfalso; exact absurd hbn (by assumption))
            | exact jn () trivial (hx := by rw [hgold.get]; (repeat (first | exact trivial | refine And.intro rfl ?_ | fail)))
        · rw [if_neg hbn, Int.add_zero] at hgold
          replace hgold := Bx.mk hgold
          refine goW ?_
          (repeat' (first | exact trivial | apply And.intro | intro _))
          all_goals first
            | (exfalso; exact hbn (by assumption))
            | exact jn () trivial (hx := by rw [hgold.get]; (repeat (first | exact trivial | refine And.intro rfl ?_ | fail)))
      rintro _ _
      clear hgold
      refine gor ?_
      (repeat' (first | exact trivial | apply And.intro | intro _))
      refine C.join (σ := Unit) (fun _ => ¬ gold < n) (fun _ => [(0, .pointer (some ⟨t, 0, none⟩)), (1, str name), (8, .int .i64 (c : Int)), (13, .pointer (some ⟨bk m.loA, of m.loA + at0 * 7, none⟩)), (14, .int .i64 n), (15, .int .i64 gold)]) (fun _ => ts t d e S u :: wl d m w :: R :: Rs) ?_ ?_
      · have F5 := say_spec t d e S u name [89, 111, 117, 32, 104, 97, 118, 101, 32, 110, 111, 116, 32, 115, 111, 32, 109, 117, 99, 104, 46] (by omega)
        by_cases hlt : gold < n
        · rw [if_pos hlt]
          refine goW ?_
          refine ⟨?_, by simp⟩ <;> intros
          exact ret0 ⟨rfl, rfl⟩
        · rw [if_neg hlt]
          refine goW ?_
          refine ⟨?_, by simp⟩ <;> intros
          exact jn () hlt
      rintro _ hlt
      rw [if_neg hlt]
      obtain ⟨back, hback⟩ : ∃ back, back = (if l.bidder = [] ∨ l.bidder = name then none else charI w l.bidder) := ⟨_, rfl⟩
      rw [← hback]
      obtain ⟨full, hfull⟩ : ∃ full, full = fullB w l back := ⟨_, rfl⟩
      rw [← hfull]
      obtain ⟨w1, hw1⟩ : ∃ w1, w1 = backW2 w l back := ⟨_, rfl⟩
      rw [← hw1]
      have b7 := bw.nc
      have F6 := Char_spec d m w l.bidder (by omega) lm (wl d m w)
      refine gor ?_
      (repeat' (first | exact trivial | apply And.intro | intro _))
      refine C.join (σ := Unit) (fun _ => full = false) (fun _ => [(0, .pointer (some ⟨t, 0, none⟩)), (1, str name), (8, .int .i64 (c : Int)), (13, .pointer (some ⟨bk m.loA, of m.loA + at0 * 7, none⟩)), (14, .int .i64 n), (15, .int .i64 gold)]) (fun _ => ts t d e S u :: wl d m w1 :: R :: Rs) ?_ ?_
      · cases back with
        | none =>
          rw [fullB] at hfull
          rw [backW2] at hw1
          rw [hw1]
          have hno : l.bidder = [] ∨ l.bidder = name ∨ charI w l.bidder = none := by
            by_cases h : l.bidder = [] ∨ l.bidder = name
            · rcases h with h | h
              · exact .inl h
              · exact .inr (.inl h)
            · rw [if_neg h] at hback
              exact .inr (.inr hback.symm)
          have hno2 : l.bidder = [] ∨ l.bidder = name ∨ ¬ 0 ≤ iv (charI w l.bidder) := by
            rcases hno with h | h | h
            · exact .inl h
            · exact .inr (.inl h)
            · exact .inr (.inr (by rw [h]; decide))
          generalize iv (charI w l.bidder) = di at *
          clear hback hno
          refine goW ?_
          (repeat' (first | exact trivial | apply And.intro | intro _))
          all_goals first
            | (exfalso; rcases hno2 with h | h | h <;> first | exact absurd h (by assumption) | omega)
            | exact jn () hfull
        | some d0 =>
          have hbb : ¬ (l.bidder = [] ∨ l.bidder = name) := fun h => by rw [if_pos h] at hback; cases hback
          rw [if_neg hbb] at hback
          have hb1 : ¬ l.bidder = [] := fun h => hbb (.inl h)
          have hb2 : ¬ l.bidder = name := fun h => hbb (.inr h)
          obtain ⟨y, hy, _⟩ := find_get hback.symm
          have hyl := (List.getElem?_eq_some_iff.1 hy).1
          obtain ⟨⟨A5, c5⟩, hzy, _⟩ := zip_get hy lm.1
          have hyg := hb y (List.mem_of_getElem? hy)
          rw [← hback]
          simp only [iv]
          clear F6
          rw [fullB, getD_of hy] at hfull
          unfold maxGold at hfull
          rw [backW2] at hw1
          rw [setC_eq hy] at hw1
          subst hw1
          have F5 := say_spec t d e S u name [84, 104, 101, 121, 32, 99, 97, 110, 110, 111, 116, 32, 116, 97, 107, 101, 32, 105, 116, 32, 98, 97, 99, 107, 46] (by omega)
          clear hback hbb
          by_cases hgo : 1099511627776 < y.gold + l.bid
          · rw [decide_eq_true hgo] at hfull
            subst hfull
            simp only [if_true]
            refine goW ?_
            (repeat' (first | exact trivial | apply And.intro | intro _))
            all_goals first
              | (exfalso; first | exact hb1 (by assumption) | exact hb2 (by assumption) | omega)
              | exact ret0 ⟨rfl, rfl⟩
          · rw [decide_eq_false hgo] at hfull
            refine goW ?_
            (repeat' (first | exact trivial | apply And.intro | intro _))
            all_goals first
              | (exfalso; first | exact hb1 (by assumption) | exact hb2 (by assumption) | omega)
              | exact jn () hfull
      rintro _ hfl
      rw [hfl]
      simp only [Bool.false_eq_true, if_false]
      clear hfull hfl F6
      have key : w1.lots = w.lots ∧ Laid m w1 ∧ Bw w1 ∧ (∃ x1, w1.chars[c]? = some x1 ∧ x1.name = x.name ∧ x1.on = x.on) ∧ ∀ nm, onI w1 nm = onI w nm := by
        cases back with
        | none =>
          rw [backW2] at hw1
          rw [hw1]
          exact ⟨rfl, lm, bw, ⟨x, hx, rfl, rfl⟩, fun _ => rfl⟩
        | some d0 =>
          obtain ⟨y, hy⟩ : ∃ y, w.chars[d0]? = some y := by
            split at hback
            · cases hback
            · obtain ⟨y, hy, _⟩ := find_get hback.symm
              exact ⟨y, hy⟩
          rw [backW2, setC_eq hy] at hw1
          subst hw1
          refine ⟨rfl, laid_setc lm d0 _, bw_setc bw hy _ rfl, ?_, fun nm => on_setc (x' := { y with gold := y.gold + l.bid }) hy rfl rfl nm⟩
          by_cases hdc : d0 = c
          · subst hdc
            rw [hx] at hy
            simp only [Option.some.injEq] at hy
            subst hy
            exact ⟨_, List.getElem?_set_self hcl, rfl, rfl⟩
          · exact ⟨x, by rw [List.getElem?_set_ne hdc]; exact hx, rfl, rfl⟩
      obtain ⟨e1, lm1, bw1, ⟨x1, hx1, hxn, hxo⟩, hon1⟩ := key
      clear hw1 hback hx hz zc hcl hb hlb
      have hl1 : w1.lots[at0]? = some l := by rw [e1]; exact hl
      have hal1 : at0 < w1.lots.length := by rw [e1]; exact hal
      have hll1 : w1.lots.length ≤ 1000 := by rw [e1]; exact b1
      clear hl hal
      have hcl := (List.getElem?_eq_some_iff.1 hx1).1
      obtain ⟨⟨A6, c6⟩, hz, _⟩ := zip_get hx1 lm1.1
      have zc : w1.chars.length = (w1.chars.zip m.dn).length := by rw [List.length_zip, lm1.1, Nat.min_self]
      rw [setC_eq hx1]
      have bw2 := bw_setc bw1 hx1 { x1 with gold := gold - n } rfl
      have lm2 := laid_setc lm1 c { x1 with gold := gold - n }
      have hon2 : onI { w1 with chars := w1.chars.set c { x1 with gold := gold - n } } l.bidder = onI w l.bidder := (on_setc (x' := { x1 with gold := gold - n }) hx1 rfl rfl _).trans (hon1 _)
      have hnl := nT_len n (by omega) (by omega)
      have F1 := n_spec n (by omega) (by omega)
      have F2 := say_spec t d e S u name ([89, 111, 117, 32, 98, 105, 100, 32] ++ nT n ++ [46]) (by omega)
      have F3 := on_spec t d e m { w1 with chars := w1.chars.set c { x1 with gold := gold - n } } (S ++ [(name, [89, 111, 117, 32, 98, 105, 100, 32] ++ nT n ++ [46])]) u bw2 lm2 l.bidder
      have F4 := say_spec t d e (S ++ [(name, [89, 111, 117, 32, 98, 105, 100, 32] ++ nT n ++ [46])]) u l.bidder [89, 111, 117, 32, 97, 114, 101, 32, 111, 117, 116, 98, 105, 100, 46] (by rw [List.length_append]; simp only [List.length_cons, List.length_nil]; omega)
      rw [hon2] at F3
      have e3 : setL { w1 with chars := w1.chars.set c { x1 with gold := gold - n } } at0 (fun l => { l with bid := n, bidder := name }) = { w1 with chars := w1.chars.set c { x1 with gold := gold - n }, lots := w1.lots.set at0 { l with bid := n, bidder := name } } := by
        simp only [setL, getD_of hl1]
      rw [e3]
      clear e3 hon2 bw2 lm2
      have hlo2 : ({ w1 with chars := w1.chars.set c { x1 with gold := gold - n } } : Wld).lots[at0]? = some l := hl1
      by_cases hq : l.bidder ≠ [] ∧ l.bidder ≠ name ∧ (onI w l.bidder).isSome = true
      · rw [if_pos hq]
        obtain ⟨q1, q2, q3⟩ := hq
        cases hoi : onI w l.bidder with
        | none => rw [hoi] at q3; cases q3
        | some k9 =>
          rw [hoi] at F3
          simp only [iv] at F3
          clear hoi q3
          refine goW ?_
          (repeat' (first | exact trivial | apply And.intro | intro _))
          all_goals first
            | (exfalso; first | exact q1 (by assumption) | exact q2 (by assumption) | omega)
            | exact ret0 (Ps := [ts t d e (S ++ [(name, 89 :: 111 :: 117 :: 32 :: 98 :: 105 :: 100 :: 32 :: (nT n ++ [46]))] ++ [(l.bidder, [89, 111, 117, 32, 97, 114, 101, 32, 111, 117, 116, 98, 105, 100, 46])]) u, wl d m { w1 with chars := w1.chars.set c { x1 with gold := gold - n }, lots := w1.lots.set at0 { l with bid := n, bidder := name } }, R]) ⟨rfl, by first | rfl | (rw [List.append_assoc S]; rfl)⟩
      · rw [if_neg hq]
        have hq2 : l.bidder = [] ∨ l.bidder = name ∨ ¬ 0 ≤ iv (onI w l.bidder) := by
          by_cases g1 : l.bidder = []
          · exact .inl g1
          · by_cases g2 : l.bidder = name
            · exact .inr (.inl g2)
            · refine .inr (.inr fun h => hq ⟨g1, g2, ?_⟩)
              cases hoi : onI w l.bidder with
              | none => rw [hoi] at h; exact absurd h (by decide)
              | some k => rfl
        generalize iv (onI w l.bidder) = di at *
        clear hq
        refine goW ?_
        (repeat' (first | exact trivial | apply And.intro | intro _))
        all_goals first
          | (exfalso; rcases hq2 with h | h | h <;> first | exact absurd h (by assumption) | omega)
          | exact ret0 (Ps := [ts t d e (S ++ [(name, 89 :: 111 :: 117 :: 32 :: 98 :: 105 :: 100 :: 32 :: (nT n ++ [46]))]) u, wl d m { w1 with chars := w1.chars.set c { x1 with gold := gold - n }, lots := w1.lots.set at0 { l with bid := n, bidder := name } }, R]) ⟨rfl, by first | rfl | (rw [List.append_assoc S]; rfl)⟩
end
end Go.Proofs.YtflmbhkjhfmeoaaGreat
