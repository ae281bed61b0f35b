/-
  The program's finding: the n-th of some things of a kind's name.
-/
import Derived.Test.YtckkipangiapbaaGreatEnCut
import Derived.Test.YtckkipangiapbaaGreatEnGen
namespace Go.Proofs.YtckkipangiapbaaGreat
open Go.SL Go.RowKit
set_option linter.unusedVariables false
set_option linter.unusedSimpArgs false
set_option maxHeartbeats 8000000
set_option maxRecDepth 20000
theorem cnt_stp {f : Nat → Bool} {l : List Nat} {k i : Nat} (h : l[k]? = some i) : (l.take (k + 1)).filter f = (l.take k).filter f ++ if f i then [i] else [] := by
  rw [List.take_add_one, h]; simp only [Option.toList_some, List.filter_append]; congr 1; by_cases hf : f i = true <;> simp [hf]
theorem nth_hi {f : Nat → Bool} {l : List Nat} {k i : Nat} {n : Int} (h : l[k]? = some i) (hf : f i = true) (hn : n - ((l.take k).filter f).length = 1) : nthOf f l n = some i := by
  rw [nthOf, if_neg (by omega)]
  have e : l = l.take (k + 1) ++ l.drop (k + 1) := (List.take_append_drop _ _).symm
  rw [e, List.filter_append, cnt_stp h, if_pos hf, List.append_assoc]
  rw [List.getElem?_append_right (by omega)]
  rw [show (n - 1).toNat - ((l.take k).filter f).length = 0 from by omega]; rfl
theorem nth_no {f : Nat → Bool} {l : List Nat} {n : Int} (hn : n < 1 ∨ ((l.filter f).length : Int) < n) : nthOf f l n = none := by
  rw [nthOf]
  split
  · rfl
  · rw [List.getElem?_eq_none_iff]; omega
theorem nth_range (s : Tx) (h : (nthP s).2.2 = true) : 1 ≤ (nthP s).2.1 ∧ (nthP s).2.1 ≤ 99 := by
  unfold nthP at h ⊢
  split
  · exact ⟨by simp, by simp⟩
  · rename_i i hi
    rw [hi] at h
    simp only [Bool.and_eq_true, decide_eq_true_eq] at h
    exact ⟨h.1.2, h.2⟩
theorem FindP_spec (d e : Nat) (m : Lay) (w : Wld) (mt : Tay) (tab : Tab) (hwl : w.things.length ≤ 100000) (hpl : tab.protos.length ≤ 100000) (R : HProp) [hr : RT R e mt tab] (l : List Nat) (hl : l.length ≤ 100000) (A : Option Addr) (c : Nat) (P : HProp) [hp : RW P d m w] (s : Tx) (hs : s.length ≤ 100000) (L : HProp) (hL : Reads L E64 A (ints l)) :
    Trip Tryz.prog 22 [.pointer (some ⟨d, 0, none⟩), .pointer (some ⟨e, 0, none⟩), .slice A (ints l).length c, str s] [P, R, L] (fun v Ps => v = .int .i64 (iv (findA numM tab w l s)) ∧ Ps = [P, R, L]) := by
  refine Trip.of (m := 71) Tryz.func22 rfl rfl rfl ?_
  intro o Rs
  simp only [List.cons_append, List.nil_append, enumFrom]
  have F1 := Nth_spec s hs
  have hil := ints_len l
  unfold findA
  rw [nth_ord]
  by_cases hok : (nthP s).2.2 = true
  case neg =>
    have hok2 : (nthP s).2.2 = false := by simpa using hok
    rw [hok2] at F1 ⊢
    rw [if_neg (by decide), nth_no (.inl (by decide))]
    refine go ?_
    (repeat' (first | exact trivial | apply And.intro | intro _))
    all_goals first | rfl | exact ret1 ⟨rfl, rfl⟩
  have hrg := nth_range s hok
  rw [hok] at F1 ⊢
  rw [if_pos rfl]
  simp only
  generalize (nthP s).1 = nm at *
  generalize (nthP s).2.1 = n at *
  refine go ?_
  refine ⟨?_, by simp⟩ <;> intros
  clear F1
  refine loop (σ := Nat) (fun k => k ≤ l.length ∧ (((l.take k).filter (isKind tab w nm)).length : Int) < n) (fun k => [(0, .pointer (some ⟨d, 0, none⟩)), (1, .pointer (some ⟨e, 0, none⟩)), (9, str nm), (10, .int .i64 (n - (((l.take k).filter (isKind tab w nm)).length : Int))), (28, .slice A (ints l).length c), (29, .int .i64 ((ints l).length : Int)), (30, .int .i64 (k : Int))])
    (fun k => P :: R :: L :: Rs) (fun k => l.length - k) 0 ⟨Nat.zero_le _, by simp; omega⟩ (fun k ⟨h1, h2⟩ => ?_) ⟨rfl, rfl, rfl, congrArg (fun z => some (Value.int .i64 z)) (by simp), rfl, rfl, rfl, trivial⟩
  generalize hcn : ((l.take k).filter (isKind tab w nm)).length = cn at *
  by_cases hk : k < l.length
  · obtain ⟨i, hi⟩ : ∃ i, l[k]? = some i := ⟨_, List.getElem?_eq_getElem hk⟩
    have hi2 := ints_get hi
    have hst := cnt_stp (f := isKind tab w nm) hi
    have miss : isKind tab w nm i = false → ((l.take (k + 1)).filter (isKind tab w nm)).length = cn := fun h => by rw [hst, if_neg (by simp [h]), List.append_nil, hcn]
    have more : isKind tab w nm i = true → ((l.take (k + 1)).filter (isKind tab w nm)).length = cn + 1 := fun h => by rw [hst, if_pos h, List.length_append, hcn]; rfl
    cases hx : w.things[i]? with
    | none =>
      have hge : w.things.length ≤ i := by simpa using hx
      have hf : isKind tab w nm i = false := by simp [isKind, hx]
      refine go ?_
      refine ⟨?_, by simp⟩ <;> intros
      exact rnd (k + 1) ⟨hk, by rw [miss hf]; exact h2⟩ (by omega) ⟨rfl, rfl, rfl, congrArg (fun z => some (Value.int .i64 z)) (by rw [miss hf]), rfl, rfl, rfl, trivial⟩
    | some x =>
      have hlt := (List.getElem?_eq_some_iff.1 hx).1
      have F1 := ProtoP_spec e mt tab x.proto (by omega) R
      cases hc : protoI tab x.proto with
      | none =>
        have hf : isKind tab w nm i = false := by simp [isKind, hx, hc]
        rw [hc, Option.isSome_none] at F1
        generalize proD tab x.proto = y at F1
        refine go ?_
        refine ⟨?_, by simp⟩ <;> intros
        exact rnd (k + 1) ⟨hk, by rw [miss hf]; exact h2⟩ (by omega) ⟨rfl, rfl, rfl, congrArg (fun z => some (Value.int .i64 z)) (by rw [miss hf]), rfl, rfl, rfl, trivial⟩
      | some p =>
        obtain ⟨y, hy, _⟩ := find_get hc
        rw [hc, Option.isSome_some, show proD tab x.proto = y from by rw [proD, hc]; exact getD_of hy] at F1
        have hyes : y.name = nm → isKind tab w nm i = true := fun h => by simp only [isKind, hx, hc, getD_of hy]; simpa using h
        have hno : ¬ y.name = nm → isKind tab w nm i = false := fun h => by simp only [isKind, hx, hc, getD_of hy]; simpa using h
        refine go ?_
        (repeat' (first | exact trivial | apply And.intro | intro _))
        all_goals first
          | (exfalso; omega)
          | (rw [nth_hi hi (hyes (by assumption)) (by rw [hcn]; omega)]; first | rfl | exact ret1 ⟨rfl, rfl⟩)
          | (have hf := hyes (by assumption); exact rnd (k + 1) ⟨hk, by rw [more hf]; omega⟩ (by omega) ⟨rfl, rfl, rfl, congrArg (fun z => some (Value.int .i64 z)) (by rw [more hf]; omega), rfl, rfl, rfl, trivial⟩)
          | (have hf := hno (by assumption); exact rnd (k + 1) ⟨hk, by rw [miss hf]; exact h2⟩ (by omega) ⟨rfl, rfl, rfl, congrArg (fun z => some (Value.int .i64 z)) (by rw [miss hf]), rfl, rfl, rfl, trivial⟩)
  · have hlk : (l.filter (isKind tab w nm)).length = cn := by rw [← hcn, List.take_of_length_le (by omega)]
    rw [nth_no (.inr (by rw [hlk]; exact h2))]
    refine go ?_
    refine ⟨?_, by simp⟩ <;> intros
    first | rfl | exact ret1 ⟨rfl, rfl⟩
end Go.Proofs.YtckkipangiapbaaGreat
