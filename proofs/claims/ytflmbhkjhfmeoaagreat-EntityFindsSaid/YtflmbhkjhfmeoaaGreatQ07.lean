/-
  Walks and laws joined: WdFind.
-/
import Derived.Test.YtflmbhkjhfmeoaaGreatQ04
import Derived.Test.YtflmbhkjhfmeoaaGreatQ06
set_option linter.unusedVariables false
set_option linter.unusedSimpArgs false
namespace Go.Proofs.YtflmbhkjhfmeoaaGreat
open Go.SL
set_option maxHeartbeats 8000000
set_option maxRecDepth 20000
theorem Ordinal_spec (s : Tx) (hs : s.length ≤ 100000) : Trip Tryz.prog 55 [str s] [] (fun v Ps => v = .tuple #[.int .i64 (ordN numM s).1, str (ordN numM s).2] ∧ Ps = []) := by
  refine Trip.of (m := 40) Tryz.func55 rfl rfl rfl ?_
  intro o Rs
  simp only [List.cons_append, List.nil_append, enumFrom]
  unfold ordN
  refine go ?_
  refine ⟨?_, by simp⟩ <;> intros
  refine loop (fun k => k ≤ s.length ∧ (s.take k).findIdx? (fun x => x == 46) = none) (fun k => [(0, str s), (4, .int .i64 (k : Int))]) (fun k => Rs) (fun k => s.length - k) 0 ⟨Nat.zero_le _, find_zero⟩ fun k ⟨h1, h2⟩ => ?_
  by_cases hk : k < s.length
  · obtain ⟨c, hx⟩ : ∃ c, s[k]? = some c := ⟨_, List.getElem?_eq_getElem hk⟩
    have hc := c.toNat_lt
    by_cases h46 : c = 46
    · subst h46
      rw [find_hit h2 hx (by rfl)]
      simp only
      have F1 := RefNumber_spec (s.take k)
      refine go ?_
      (repeat' (first | exact trivial | apply And.intro | intro _))
      all_goals generalize numM (List.take k s) = q at *
      all_goals first
        | (rw [if_pos (by first | exact .inl (by assumption) | exact .inr (.inl (by omega)) | exact .inr (.inr (by omega)))]; try rfl)
        | (rw [if_neg (by rintro (h | h | h) <;> first | omega | simp_all), show ((k : Int) + 1).toNat = k + 1 from by omega])
    · have h47 : ¬ (c.toNat : Int) = 46 := by intro h; apply h46; rw [← UInt8.toNat_inj]; show c.toNat = 46; omega
      refine go ?_
      refine ⟨?_, by simp⟩ <;> intros
      exact rnd (k + 1) ⟨hk, find_miss h2 hx (by simpa using h46)⟩ (by omega)
  · rw [find_end h2 hk]
    refine go ?_
    simp
theorem cnt_step {f : Nat → Bool} {l : List Nat} {k i : Nat} (h : l[k]? = some i) : (l.take (k + 1)).filter f = (l.take k).filter f ++ if f i then [i] else [] := by
  rw [List.take_add_one, h]; simp only [Option.toList_some, List.filter_append]; congr 1; by_cases hf : f i = true <;> simp [hf]
theorem nth_hit {f : Nat → Bool} {l : List Nat} {k i : Nat} {n : Int} (h : l[k]? = some i) (hf : f i = true) (hn : n - ((l.take k).filter f).length = 1) : nthOf f l n = some i := by
  rw [nthOf, if_neg (by omega)]
  have e : l = l.take (k + 1) ++ l.drop (k + 1) := (List.take_append_drop _ _).symm
  rw [e, List.filter_append, cnt_step h, if_pos hf, List.append_assoc]
  rw [List.getElem?_append_right (by omega)]
  rw [show (n - 1).toNat - ((l.take k).filter f).length = 0 from by omega]; rfl
theorem nth_none {f : Nat → Bool} {l : List Nat} {n : Int} (hn : n < 1 ∨ ((l.filter f).length : Int) < n) : nthOf f l n = none := by
  rw [nthOf]
  split
  · rfl
  · rw [List.getElem?_eq_none_iff]; omega
theorem ord_range (s : Tx) : 0 ≤ (ordN numM s).1 ∧ (ordN numM s).1 ≤ 99 := by
  unfold ordN
  split
  · simp
  · split
    · simp
    · rename_i h
      simp only [not_or, Int.not_lt] at h
      exact ⟨by simp only; omega, by simp only; omega⟩
theorem Find_spec (d e : Nat) (m : Lay) (w : Wld) (mt : Tay) (tab : Tab) (bw : Bw w) (bt : Bt tab) (R : HProp) [hr : RT R e mt tab] (l : List Nat) (hl : l.length ≤ 100000) (A : Option Addr) (c : Nat) (P : HProp) [hp : RW P d m w] (s : Tx) (hs : s.length ≤ 100000) :
    Trip Tryz.prog 47 [.pointer (some ⟨d, 0, none⟩), .pointer (some ⟨e, 0, none⟩), .slice A (ints l).length c, str s] [P, R, sl E64 3 A c (ints l)] (fun v Ps => v = .int .i64 (iv (findA numM tab w l s)) ∧ Ps = [P, R, sl E64 3 A c (ints l)]) := by
  refine Trip.of (m := 73) Tryz.func47 rfl rfl rfl ?_
  intro o Rs
  simp only [List.cons_append, List.nil_append, enumFrom]
  have F1 := Ordinal_spec s hs
  have hrg := ord_range s
  have b1 := bw.nt
  have b2 := bt.np
  have hil := ints_len l
  refine go ?_
  refine ⟨?_, by simp⟩ <;> intros
  clear F1
  unfold findA
  generalize (ordN numM s).1 = n at *
  generalize (ordN numM s).2 = nm at *
  refine loop (σ := Nat) (fun k => k ≤ l.length ∧ (1 ≤ n → (((l.take k).filter (isKind tab w nm)).length : Int) < n) ∧ (n < 1 → k = 0)) (fun k => [(0, .pointer (some ⟨d, 0, none⟩)), (1, .pointer (some ⟨e, 0, none⟩)), (2, .slice A (ints l).length c), (9, .int .i64 (n - (((l.take k).filter (isKind tab w nm)).length : Int))), (10, str nm), (11, .int .i64 (k : Int))])
    (fun k => P :: R :: sl E64 3 A c (ints l) :: Rs) (fun k => l.length - k) 0 ⟨Nat.zero_le _, fun h => by simp; omega, fun _ => rfl⟩ (fun k ⟨h1, h2, h3⟩ => ?_) ⟨rfl, rfl, rfl, congrArg (fun z => some (Value.int .i64 z)) (by simp), rfl, rfl, trivial⟩
  by_cases hn : n < 1
  · have hk := h3 hn
    subst hk
    rw [nth_none (.inl hn)]
    simp only [List.take_zero, List.filter_nil, List.length_nil]
    refine go ?_
    (repeat' (first | exact trivial | apply And.intro | intro _))
    all_goals rfl
  have hc2 := h2 (by omega)
  generalize hcn : ((l.take k).filter (isKind tab w nm)).length = cn at *
  by_cases hk : k < l.length
  · obtain ⟨i, hi⟩ : ∃ i, l[k]? = some i := ⟨_, List.getElem?_eq_getElem hk⟩
    have hi2 := ints_get hi
    have hst := cnt_step (f := isKind tab w nm) hi
    have miss : isKind tab w nm i = false → ((l.take (k + 1)).filter (isKind tab w nm)).length = cn := fun h => by rw [hst, if_neg (by simp [h]), List.append_nil, hcn]
    have more : isKind tab w nm i = true → ((l.take (k + 1)).filter (isKind tab w nm)).length = cn + 1 := fun h => by rw [hst, if_pos h, List.length_append, hcn]; rfl
    cases hx : w.things[i]? with
    | none =>
      have hge : w.things.length ≤ i := by simpa using hx
      have hf : isKind tab w nm i = false := by simp [isKind, hx]
      refine go ?_
      refine ⟨?_, by simp⟩ <;> intros
      exact rnd (k + 1) ⟨hk, fun _ => by rw [miss hf]; exact hc2, fun h => by omega⟩ (by omega) ⟨rfl, rfl, rfl, congrArg (fun z => some (Value.int .i64 z)) (by rw [miss hf]), rfl, rfl, trivial⟩
    | some x =>
      have hlt := (List.getElem?_eq_some_iff.1 hx).1
      have F1 := Proto_spec e mt tab x.proto (by omega) R
      cases hc : protoI tab x.proto with
      | none =>
        have hf : isKind tab w nm i = false := by simp [isKind, hx, hc]
        rw [hc] at F1
        simp only [iv] at F1
        refine go ?_
        refine ⟨?_, by simp⟩ <;> intros
        exact rnd (k + 1) ⟨hk, fun _ => by rw [miss hf]; exact hc2, fun h => by omega⟩ (by omega) ⟨rfl, rfl, rfl, congrArg (fun z => some (Value.int .i64 z)) (by rw [miss hf]), rfl, rfl, trivial⟩
      | some p =>
        obtain ⟨y, hy, _⟩ := find_get hc
        have hp2 := find_lt hc
        rw [hc] at F1
        simp only [iv] at F1
        have hyes : y.name = nm → isKind tab w nm i = true := fun h => by simp only [isKind, hx, hc, getD_of hy]; simpa using h
        have hno : ¬ y.name = nm → isKind tab w nm i = false := fun h => by simp only [isKind, hx, hc, getD_of hy]; simpa using h
        refine go ?_
        (repeat' (first | exact trivial | apply And.intro | intro _))
        · rw [nth_hit hi (hyes (by assumption)) (by rw [hcn]; omega)]; rfl
        · have hf := hyes (by assumption)
          exact rnd (k + 1) ⟨hk, fun _ => by rw [more hf]; omega, fun h => by omega⟩ (by omega) ⟨rfl, rfl, rfl, congrArg (fun z => some (Value.int .i64 z)) (by rw [more hf]; omega), rfl, rfl, trivial⟩
        · have hf := hno (by assumption)
          exact rnd (k + 1) ⟨hk, fun _ => by rw [miss hf]; exact hc2, fun h => by omega⟩ (by omega) ⟨rfl, rfl, rfl, congrArg (fun z => some (Value.int .i64 z)) (by rw [miss hf]), rfl, rfl, trivial⟩
  · rw [List.take_of_length_le (by omega)] at hcn
    rw [nth_none (.inr (by rw [hcn]; exact hc2))]
    refine go ?_
    refine ⟨?_, by simp⟩ <;> intros
    rfl
end Go.Proofs.YtflmbhkjhfmeoaaGreat
