/-
  Walks and laws joined: WdSmall WdShop.
-/
import Derived.Test.YtflmbhkjhfmeoaaGreatQ14
import Derived.Test.YtflmbhkjhfmeoaaGreatQ15
import Derived.Test.YtflmbhkjhfmeoaaGreatQ16
set_option linter.unusedVariables false
set_option linter.unusedSimpArgs false
namespace Go.Proofs.YtflmbhkjhfmeoaaGreat
open Go.SL
set_option maxHeartbeats 8000000
set_option maxRecDepth 20000
def hexB (c : UInt8) : Bool := (decide (48 ≤ c.toNat) && decide (c.toNat ≤ 57)) || (decide (97 ≤ c.toNat) && decide (c.toNat ≤ 102))
def hashB (s : Tx) : Bool := s.all hexB && s.length == 64
def nameB (s : Tx) : Bool := decide (2 ≤ s.length) && decide (s.length ≤ 12) && wordB s
theorem all_take2 {p : UInt8 → Bool} {s : Tx} {k : Nat} {c : UInt8} (h : (s.take k).all p = true) (hx : s[k]? = some c) (hp : p c = true) : (s.take (k + 1)).all p = true := by
  rw [List.take_add_one, hx, List.all_append, h]; simpa using hp
theorem Hash_spec (s : Tx) (hs : s.length ≤ 100000) : Trip Tryz.prog 106 [str s] [] (fun v Ps => v = .bool (hashB s) ∧ Ps = []) := by
  refine Trip.of (m := 36) Tryz.func106 rfl rfl rfl ?_
  intro o Rs
  simp only [List.cons_append, List.nil_append, enumFrom]
  unfold hashB
  refine goW ?_
  refine ⟨?_, by simp⟩ <;> intros
  refine loop (fun k => k ≤ s.length ∧ (s.take k).all hexB = true) (fun k => [(0, str s), (3, .int .i64 (k : Int))]) (fun k => Rs) (fun k => s.length - k) 0 ⟨Nat.zero_le _, rfl⟩ fun k ⟨h1, h2⟩ => ?_
  by_cases hk : k < s.length
  · obtain ⟨c, hx⟩ : ∃ c, s[k]? = some c := ⟨_, List.getElem?_eq_getElem hk⟩
    have hc := c.toNat_lt
    refine goW ?_
    (repeat' (first | exact trivial | apply And.intro | intro _))
    all_goals first
      | exact rnd (k + 1) ⟨hk, all_take2 h2 hx (by simp only [hexB, Bool.or_eq_true, Bool.and_eq_true, decide_eq_true_eq]; omega)⟩ (by omega)
      | (rw [all_not s hexB k c hx (by simp only [hexB, Bool.or_eq_false_iff, Bool.and_eq_false_iff, decide_eq_false_iff_not]; omega)]; rfl)
  · rw [List.take_of_length_le (by omega)] at h2
    rw [h2]
    refine goW ?_
    refine ⟨?_, by simp⟩ <;> intros
    have e : (((s.length : Nat) : Int) == 64) = (s.length == 64) := by rw [Bool.eq_iff_iff]; simp only [beq_iff_eq]; omega
    rw [e]
    rfl
theorem Name_spec (s : Tx) (hs : s.length ≤ 100000) : Trip Tryz.prog 105 [str s] [] (fun v Ps => v = .bool (nameB s) ∧ Ps = []) := by
  refine Trip.of (m := 15) Tryz.func105 rfl rfl rfl ?_
  intro o Rs
  simp only [List.cons_append, List.nil_append, enumFrom]
  have F1 := RefWord_spec s (by omega)
  unfold nameB
  by_cases h1 : 2 ≤ s.length
  · by_cases h2 : s.length ≤ 12
    · rw [decide_eq_true h1, decide_eq_true h2]
      refine goW ?_
      refine ⟨?_, by simp⟩ <;> intros
      simp
    · rw [decide_eq_true h1, decide_eq_false h2]
      refine goW ?_
      refine ⟨?_, by simp⟩ <;> intros
      simp
  · rw [decide_eq_false h1]
    refine goW ?_
    refine ⟨?_, by simp⟩ <;> intros
    simp
theorem n_spec (x : Int) (h0 : -9223372036854775808 ≤ x) (h1 : x ≤ 9223372036854775807) : Trip Tryz.prog 228 [.int .i64 x] [] (fun v Ps => v = str (nT x) ∧ Ps = []) := by
  refine Trip.of (m := 5) Tryz.func228 rfl rfl rfl ?_
  intro o Rs
  simp only [List.cons_append, List.nil_append, enumFrom]
  have F1 := RefPrint_spec x h0 h1
  refine goW ?_
  simp
theorem has_miss2 {x : Int} {l : List Int} {k : Nat} {y : Int} (h : (l.take k).contains x = false) (hy : l[k]? = some y) (hn : ¬ y = x) : (l.take (k + 1)).contains x = false := by
  rw [List.take_add_one, hy]
  simp only [List.contains_eq_mem, decide_eq_false_iff_not, Option.toList_some, List.mem_append, List.mem_singleton, not_or] at h ⊢
  exact ⟨h, fun e => hn e.symm⟩
theorem has_hit2 {x : Int} {l : List Int} {k : Nat} {y : Int} (hy : l[k]? = some y) (hn : y = x) : l.contains x = true := by
  simp only [List.contains_eq_mem, decide_eq_true_eq]
  subst hn; exact List.mem_of_getElem? hy
theorem did_spec (id : Int) (c : Chr) (A : Option Addr) (k : Nat) (hl : c.done.length ≤ 100000) (R : HProp) (hR : Reads R E64 A c.done) : Trip Tryz.prog 269 [.agg (chrC c (A, k)).toArray, .int .i64 id] [R] (fun v Ps => v = .bool (c.done.contains id) ∧ Ps = [R]) := by
  refine Trip.of (m := 20) Tryz.func269 rfl rfl rfl ?_
  intro o Rs
  simp only [List.cons_append, List.nil_append, enumFrom]
  refine goW ?_
  refine ⟨?_, by simp⟩ <;> intros
  rename_i b0
  refine loop (fun j => j ≤ c.done.length ∧ (c.done.take j).contains id = false) (fun j => [(1, .int .i64 id), (2, .pointer (some ⟨b0, 0, none⟩)), (5, .int .i64 (j : Int))]) (fun j => blk b0 80 (chrC c (A, k)) :: R :: Rs) (fun j => c.done.length - j) 0 ⟨Nat.zero_le _, by simp⟩ fun j ⟨h1, h2⟩ => ?_
  by_cases hj : j < c.done.length
  · obtain ⟨y, hy⟩ : ∃ y, c.done[j]? = some y := ⟨_, List.getElem?_eq_getElem hj⟩
    refine goW ?_
    refine ⟨fun h0 h3 => ?_, fun h0 h3 => ?_, by simp⟩
    · rw [has_hit2 hy h3]
    · exact rnd (j + 1) ⟨hj, has_miss2 h2 hy h3⟩ (by omega)
  · rw [List.take_of_length_le (by omega)] at h2
    rw [h2]
    refine goW ?_
    simp
section
variable (t d e : Nat) (m : Lay) (w : Wld) (mt : Tay) (tab : Tab) (S : List Sy) (u : Int)
theorem Make_spec (hl : w.things.length ≤ 100000) (hn : w.next ≤ 4611686018427387904) (h0 : 0 ≤ w.next) (proto : Int) (th : Thg) : Trip Tryz.prog 28 [.pointer (some ⟨d, 0, none⟩), .int .i64 proto, .agg (thgC th).toArray] [wl d m w] (fun v Ps => ∃ m', v = .bool (canMake w) ∧ Ps = [wl d m' (makeIf w proto th.place th.room th.who)]) := by
  refine Trip.of (m := 41) Tryz.func28 rfl rfl rfl ?_
  intro o Rs
  simp only [List.cons_append, List.nil_append, enumFrom]
  haveI : Plan 3 [17, 21, 24, 26, 28] [0, 1, 2, 3, 4, 5, 6, 7, 8, 9, 10, 11, 12, 13, 14, 15, 16, 17, 18, 19, 20, 21] := ⟨⟩
  unfold canMake makeIf
  refine copenw (d := d) (m := m) (w := w) fun lm => ?_
  simp only [List.cons_append, List.nil_append]
  by_cases h2 : w.things.length < 200
  · rw [decide_eq_true h2, if_pos (by rw [canMake, decide_eq_true h2])]
    unfold makeW
    refine goW ?_
    refine ⟨?_, by simp⟩ <;> intros
    rename_i A' c'
    refine efoldw d { m with thA := A', thC := c' } { w with things := w.things ++ [⟨w.next, proto, th.place, th.room, th.who⟩], next := w.next + 1 } lm ?_
    exact ret1 ⟨_, rfl, rfl⟩
  · rw [decide_eq_false h2, if_neg (by rw [canMake, decide_eq_false h2]; decide)]
    refine goW ?_
    refine ⟨?_, by simp⟩ <;> intros
    refine efoldw d m w lm ?_
    exact ret1 ⟨_, rfl, rfl⟩
theorem much_spec (name s : Tx) (hS : S.length ≤ 500000) : Trip Tryz.prog 266 [.pointer (some ⟨t, 0, none⟩), str name, str s] [ts t d e S u] (fun v Ps => v = .int .i64 ((muchN numM s).getD 0) ∧ Ps = [ts t d e (S ++ if (muchN numM s).isNone then howMuch name else []) u]) := by
  refine Trip.of (m := 24) Tryz.func266 rfl rfl rfl ?_
  intro o Rs
  simp only [List.cons_append, List.nil_append, enumFrom]
  have F1 := RefNumber_spec s
  have F2 := say_spec t d e S u name [72, 111, 119, 32, 109, 117, 99, 104, 63] (by omega)
  unfold muchN howMuch
  generalize numM s = q at *
  by_cases hq : q.2 = false ∨ q.1 < 1
  · rw [if_pos hq]
    simp only [Option.isNone_none, if_true, Option.getD_none]
    refine goW ?_
    (repeat' (first | exact trivial | apply And.intro | intro _))
    all_goals first
      | (exfalso; rcases hq with hq | hq <;> first | omega | (simp_all; done))
      | exact ret1 ⟨rfl, rfl⟩
  · rw [if_neg hq]
    have hq1 : ¬ q.2 = false := fun h => hq (.inl h)
    have hq2 : ¬ q.1 < 1 := fun h => hq (.inr h)
    simp only [Option.isNone_some, Bool.false_eq_true, if_false, Option.getD_some, List.append_nil]
    refine goW ?_
    (repeat' (first | exact trivial | apply And.intro | intro _))
    all_goals first
      | (exfalso; first | omega | contradiction)
      | exact ret1 ⟨rfl, rfl⟩
theorem roomKind_spec (bw : Bw w) (bt : Bt tab) (lm : Laid m w) (R : HProp) [hr : RT R e mt tab] (c : Nat) (x : Chr) (hx : w.chars[c]? = some x) : Trip Tryz.prog 265 [.pointer (some ⟨t, 0, none⟩), .int .i64 (c : Int)] [ts t d e S u, wl d m w, R] (fun v Ps => v = .int .i64 (roomK tab w c) ∧ Ps = [ts t d e S u, wl d m w, R]) := by
  refine Trip.of (m := 35) Tryz.func265 rfl rfl rfl ?_
  intro o Rs
  simp only [List.cons_append, List.nil_append, enumFrom]
  haveI : Plan 1 [9, 13, 16, 20] [0, 1, 2, 3, 4, 5, 6, 7, 8, 9, 10, 11, 12, 13, 14, 15, 16] := ⟨⟩
  have b1 := bt.nr
  have zc : w.chars.length = (w.chars.zip m.dn).length := by rw [List.length_zip, lm.1, Nat.min_self]
  have hcl := (List.getElem?_eq_some_iff.1 hx).1
  obtain ⟨⟨A0, c0⟩, hz, _⟩ := zip_get hx lm.1
  have F1 := Room_spec e mt tab x.room (by omega) R
  unfold roomK
  rw [getD_of hx]
  cases hk : roomI tab x.room with
  | none =>
    rw [hk] at F1
    simp only [iv] at F1 ⊢
    refine goW ?_
    simp
  | some k =>
    obtain ⟨y, hy, _⟩ := find_get hk
    have hkl := find_lt hk
    rw [hk] at F1
    simp only [iv, getD_of hy] at F1 ⊢
    refine goW ?_
    simp
end
end Go.Proofs.YtflmbhkjhfmeoaaGreat
namespace Go.Proofs.YtflmbhkjhfmeoaaGreat
open Go.SL
set_option maxHeartbeats 8000000
set_option maxRecDepth 20000
section
variable (t d e : Nat) (m : Lay) (w : Wld) (mt : Tay) (tab : Tab) (S : List Sy) (u : Int)
theorem hall_spec (bw : Bw w) (bt : Bt tab) (lm : Laid m w) (R : HProp) [hr : RT R e mt tab] (name : Tx) (c : Nat) (x : Chr) (hx : w.chars[c]? = some x) (hS : S.length ≤ 500000) :
    Trip Tryz.prog 273 [.pointer (some ⟨t, 0, none⟩), str name, .int .i64 (c : Int)] [ts t d e S u, wl d m w, R] (fun v Ps => v = .bool (decide (roomK tab w c = 5)) ∧ Ps = [ts t d e (S ++ if roomK tab w c = 5 then [] else noHall name) u, wl d m w, R]) := by
  refine Trip.of (m := 14) Tryz.func273 rfl rfl rfl ?_
  intro o Rs
  simp only [List.cons_append, List.nil_append, enumFrom]
  have F1 := roomKind_spec t d e m w mt tab S u bw bt lm R c x hx
  have F2 := say_spec t d e S u name [84, 104, 101, 114, 101, 32, 105, 115, 32, 110, 111, 32, 97, 117, 99, 116, 105, 111, 110, 32, 104, 101, 114, 101, 46] (by omega)
  unfold noHall
  generalize roomK tab w c = k at *
  by_cases hk : k = 5
  · rw [decide_eq_true hk, if_pos hk, List.append_nil]
    refine goW ?_
    simp
  · rw [decide_eq_false hk, if_neg hk]
    refine goW ?_
    simp
def mineV : Nat ⊕ List Sy → Int
  | .inl k => k
  | .inr _ => -1
def mineL : Nat ⊕ List Sy → List Sy
  | .inl _ => []
  | .inr l => l
theorem mine_spec (bw : Bw w) (bt : Bt tab) (lm : Laid m w) (R : HProp) [hr : RT R e mt tab] (name : Tx) (c : Nat) (x : Chr) (hx : w.chars[c]? = some x) (hS : S.length ≤ 500000) :
    Trip Tryz.prog 289 [.pointer (some ⟨t, 0, none⟩), str name, .int .i64 (c : Int)] [ts t d e S u, wl d m w, R] (fun v Ps => v = .int .i64 (mineV (mineI tab w name c)) ∧ Ps = [ts t d e (S ++ mineL (mineI tab w name c)) u, wl d m w, R]) := by
  refine Trip.of (m := 49) Tryz.func289 rfl rfl rfl ?_
  intro o Rs
  simp only [List.cons_append, List.nil_append, enumFrom]
  have zc : w.chars.length = (w.chars.zip m.dn).length := by rw [List.length_zip, lm.1, Nat.min_self]
  have zh : w.houses.length = (w.houses.zip m.gs).length := by rw [List.length_zip, lm.2, Nat.min_self]
  have hcl := (List.getElem?_eq_some_iff.1 hx).1
  obtain ⟨⟨A0, c0⟩, hz, _⟩ := zip_get hx lm.1
  have F1 := roomKind_spec t d e m w mt tab S u bw bt lm R c x hx
  have F2 := say_spec t d e S u name [84, 104, 105, 115, 32, 105, 115, 32, 110, 111, 32, 104, 111, 117, 115, 101, 46] (by omega)
  have F3 := say_spec t d e S u name [73, 116, 32, 105, 115, 32, 110, 111, 116, 32, 121, 111, 117, 114, 115, 46] (by omega)
  have F4 := house_spec t d e m w S u bw lm x.room
  unfold mineI
  rw [getD_of hx]
  by_cases hk : roomK tab w c = 4
  · rw [if_neg (by simpa using hk)]
    rw [hk] at F1
    cases hh : houseI w x.room with
    | none =>
      rw [hh] at F4
      simp only [iv, mineV, mineL] at F4 ⊢
      refine goW ?_
      simp
    | some k =>
      obtain ⟨y, hy, _⟩ := find_get hh
      have hkl := find_lt hh
      obtain ⟨⟨A1, c1⟩, hz1, _⟩ := zip_get hy lm.2
      rw [hh] at F4
      simp only [iv, getD_of hy] at F4 ⊢
      by_cases ho : y.owner = name
      · rw [if_pos ho]
        simp only [mineV, mineL, List.append_nil]
        refine goW ?_
        (repeat' (first | exact trivial | apply And.intro | intro _))
        all_goals (exfalso; first | contradiction | omega)
      · rw [if_neg ho]
        simp only [mineV, mineL]
        refine goW ?_
        (repeat' (first | exact trivial | apply And.intro | intro _))
        all_goals (exfalso; first | contradiction | omega)
  · rw [if_pos hk]
    simp only [mineV, mineL, noHouse]
    generalize roomK tab w c = k at *
    refine goW ?_
    simp
theorem shop_spec (bw : Bw w) (bt : Bt tab) (lm : Laid m w) (lt : TLaid mt tab) (R : HProp) [hr : RT R e mt tab] (name : Tx) (c : Nat) (x : Chr) (hx : w.chars[c]? = some x) (hS : S.length ≤ 500000) :
    Trip Tryz.prog 263 [.pointer (some ⟨t, 0, none⟩), str name, .int .i64 (c : Int)] [ts t d e S u, wl d m w, R] (fun v Ps => v = (match shopI tab w x.room with
      | some p => .tuple #[.int .i64 (p.1 : Int), .int .i64 (p.2 : Int)]
      | none => .tuple #[.int .i64 (-1), .int .i64 (-1)]) ∧ Ps = [ts t d e (S ++ if (shopI tab w x.room).isNone then noShop name else []) u, wl d m w, R]) := by
  refine Trip.of (m := 85) Tryz.func263 rfl rfl rfl ?_
  intro o Rs
  simp only [List.cons_append, List.nil_append, enumFrom]
  have zc : w.chars.length = (w.chars.zip m.dn).length := by rw [List.length_zip, lm.1, Nat.min_self]
  have zs : tab.shops.length = (tab.shops.zip mt.it).length := by rw [List.length_zip, lt.2, Nat.min_self]
  have hcl := (List.getElem?_eq_some_iff.1 hx).1
  obtain ⟨⟨A0, c0⟩, hz, _⟩ := zip_get hx lm.1
  have b1 := bt.ns
  have b2 := bw.ni
  refine goW ?_
  refine ⟨?_, by simp⟩ <;> intros
  refine loop (fun i => i ≤ tab.shops.length ∧ ((tab.shops.take i).findIdx? (fun s => s.room == x.room) = none ∨ w.tills.findIdx? (fun s => s.room == x.room) = none)) (fun i => [(0, .pointer (some ⟨t, 0, none⟩)), (1, str name), (2, .int .i64 (c : Int)), (8, .int .i64 (i : Int))])
    (fun i => ts t d e S u :: wl d m w :: R :: Rs) (fun i => tab.shops.length - i) 0 ⟨Nat.zero_le _, .inl find_zero⟩ fun i ⟨h1, h2⟩ => ?_
  by_cases hi : i < tab.shops.length
  · obtain ⟨s, hs⟩ : ∃ s, tab.shops[i]? = some s := ⟨_, List.getElem?_eq_getElem hi⟩
    obtain ⟨⟨A1, c1⟩, hz1, _⟩ := zip_get hs lt.2
    by_cases hsr : s.room = x.room
    · refine goW ?_
      (repeat' (first | exact trivial | apply And.intro | intro _))
      refine loop (fun k => k ≤ w.tills.length ∧ (w.tills.take k).findIdx? (fun s => s.room == x.room) = none) (fun k => [(0, .pointer (some ⟨t, 0, none⟩)), (1, str name), (2, .int .i64 (c : Int)), (8, .int .i64 (i : Int)), (9, .int .i64 (k : Int))])
        (fun k => ts t d e S u :: wl d m w :: R :: Rs) (fun k => w.tills.length - k) 0 ⟨Nat.zero_le _, find_zero⟩ fun k ⟨h3, h4⟩ => ?_
      by_cases hk : k < w.tills.length
      · obtain ⟨y, hy⟩ : ∃ y, w.tills[k]? = some y := ⟨_, List.getElem?_eq_getElem hk⟩
        by_cases hyr : y.room = x.room
        · have hf2 := find_hit h4 hy (by simpa using hyr)
          have hf1 := find_hit (h2.resolve_right (by rw [hf2]; simp)) hs (by simpa using hsr)
          have hsh : shopI tab w x.room = some (i, k) := by unfold shopI; rw [hf1, hf2]
          rw [hsh]
          simp only [Option.isNone_some, Bool.false_eq_true, if_false, List.append_nil]
          refine goW ?_
          simp
        · refine goW ?_
          refine ⟨?_, by simp⟩ <;> intros
          exact rnd (k + 1) ⟨hk, find_miss h4 hy (by simpa using hyr)⟩ (by omega)
      · have h5 := find_end h4 hk
        refine goW ?_
        refine ⟨?_, by simp⟩ <;> intros
        exact rnd (i + 1) ⟨hi, .inr h5⟩ (by omega)
    · refine goW ?_
      refine ⟨?_, by simp⟩ <;> intros
      exact rnd (i + 1) ⟨hi, h2.elim (fun h => .inl (find_miss h hs (by simpa using hsr))) .inr⟩ (by omega)
  · have hsh : shopI tab w x.room = none := by
      unfold shopI
      rcases h2 with h2 | h2
      · rw [find_end h2 hi]
      · rw [h2]; cases tab.shops.findIdx? (fun s => s.room == x.room) <;> rfl
    rw [hsh]
    simp only [Option.isNone_none, if_true]
    have F1 := say_spec t d e S u name [84, 104, 101, 114, 101, 32, 105, 115, 32, 110, 111, 32, 115, 104, 111, 112, 32, 104, 101, 114, 101, 46] (by omega)
    unfold noShop
    refine goW ?_
    simp
end
end Go.Proofs.YtflmbhkjhfmeoaaGreat
