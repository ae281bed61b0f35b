/-
  Walks and laws joined: WdGuest.
-/
import Derived.Test.YtflmbhkjhfmeoaaGreatQ22
set_option linter.unusedVariables false
set_option linter.unusedSimpArgs false
namespace Go.Proofs.YtflmbhkjhfmeoaaGreat
open Go.SL
set_option maxHeartbeats 8000000
set_option maxRecDepth 20000
theorem has_stepT {x : Tx} {l : List Tx} {k : Nat} {y : Tx} (hy : l[k]? = some y) : (l.take (k + 1)).contains x = ((l.take k).contains x || y == x) := by
  rw [List.take_add_one, hy, List.contains_eq_any_beq, List.any_append, ← List.contains_eq_any_beq]
  simp [Bool.beq_comm]
theorem fil_step {x : Tx} {l : List Tx} {k : Nat} {y : Tx} (hy : l[k]? = some y) : (l.take (k + 1)).filter (fun z => !(z == x)) = (l.take k).filter (fun z => !(z == x)) ++ if y == x then [] else [y] := by
  rw [List.take_add_one, hy, List.filter_append]
  congr 1
  cases h : y == x <;> simp [h]
theorem ltTx_eq : ∀ a b : Tx, ltTx a b = Op.bytesLess a b
  | a, [] => by unfold ltTx Op.bytesLess; simp
  | [], b :: y => by unfold ltTx Op.bytesLess; simp
  | a :: x, b :: y => by
    have ih := ltTx_eq x y
    unfold ltTx at ih
    have h : (a :: x < b :: y) ↔ a < b ∨ a = b ∧ x < y := List.cons_lt_cons_iff
    unfold ltTx Op.bytesLess
    rw [← ih, Bool.eq_iff_iff]
    simp only [decide_eq_true_eq, Bool.or_eq_true, Bool.and_eq_true, beq_iff_eq, h]
theorem fil_self {x : Tx} : ∀ {l : List Tx}, l.contains x = false → l.filter (fun z => !(z == x)) = l
  | [], _ => rfl
  | a :: l, h => by
    rw [List.contains_cons, Bool.or_eq_false_iff] at h
    rw [List.filter_cons, fil_self h.2]
    have h3 : (a == x) = false := by
      have h4 := h.1
      rw [beq_eq_false_iff_ne] at h4 ⊢
      exact fun e => h4 e.symm
    rw [h3]; rfl
section
variable (t d e : Nat) (m : Lay) (w : Wld) (mt : Tay) (tab : Tab) (S : List Sy) (u : Int)
theorem mine_get {t : Tab} {w : Wld} {name : Tx} {c k : Nat} {x : Chr} (hx : w.chars[c]? = some x) (h : mineI t w name c = .inl k) : ∃ y, w.houses[k]? = some y := by
  unfold mineI at h
  rw [getD_of hx] at h
  split at h
  · cases h
  · split at h
    · cases h
    · rename_i k2 hk2
      split at h
      · simp only [Sum.inl.injEq] at h
        subst h
        obtain ⟨y, hy, _⟩ := find_get hk2
        exact ⟨y, hy⟩
      · cases h
theorem Guest_spec (bw : Bw w) (bt : Bt tab) (lm : Laid m w) (R : HProp) [hr : RT R e mt tab] (name who0 : Tx) (hn : name.length ≤ 10000) (hw0 : who0.length ≤ 10000) (hgl : ∀ h ∈ w.houses, h.guests.length ≤ 10000) (hS : S.length ≤ 200000) :
    Trip Tryz.prog 271 [.pointer (some ⟨t, 0, none⟩), str name, str who0] [ts t d e S u, wl d m w, R] (fun v Ps => ∃ m', v = .tuple #[] ∧ Ps = [ts t d e (S ++ (guestA lowerM tab w name who0).2) u, wl d m' (guestA lowerM tab w name who0).1, R]) := by
  refine Trip.of (m := 156) Tryz.func271 rfl rfl rfl ?_
  intro o Rs
  simp only [List.cons_append, List.nil_append, enumFrom]
  unfold guestA
  have zc : w.chars.length = (w.chars.zip m.dn).length := by rw [List.length_zip, lm.1, Nat.min_self]
  have zh : w.houses.length = (w.houses.zip m.gs).length := by rw [List.length_zip, lm.2, Nat.min_self]
  have F1 := on_spec t d e m w S u bw lm name
  rcases hc : onI w name with _ | c
  · rw [hc] at F1
    simp only [iv] at F1 ⊢
    refine goW ?_
    refine ⟨?_, by simp⟩ <;> intros
    exact ret0 ⟨m, rfl, by rw [List.append_nil]⟩
  obtain ⟨x, hx, hon, hnm⟩ := on_get hc
  have hcl := (List.getElem?_eq_some_iff.1 hx).1
  rw [hc] at F1
  simp only [iv] at F1 ⊢
  have F2 := mine_spec t d e m w mt tab S u bw bt lm R name c x hx (by omega)
  rcases hmi : mineI tab w name c with k | l
  case inr =>
    rw [hmi] at F2
    simp only [mineV, mineL] at F2 ⊢
    refine goW ?_
    refine ⟨?_, by simp⟩ <;> intros
    exact ret0 ⟨m, rfl, rfl⟩
  obtain ⟨y, hy⟩ := mine_get hx hmi
  have hkl := (List.getElem?_eq_some_iff.1 hy).1
  obtain ⟨⟨A1, c1⟩, hz1, _⟩ := zip_get hy lm.2
  have hyg := hgl y (List.mem_of_getElem? hy)
  rw [hmi] at F2
  simp only [mineV, mineL, List.append_nil, getD_of hy] at F2 ⊢
  clear hmi hc hx hgl
  have hwl : (lowerM who0).length = who0.length := lower_len _
  have F3 := RefLower_spec who0 (by omega)
  generalize lowerM who0 = who at *
  have bc := bw.nc
  have F4 := Char_spec d m w who (by omega) lm (wl d m w)
  have F5 := say_spec t d e S u name [78, 111, 98, 111, 100, 121, 32, 104, 97, 115, 32, 116, 104, 97, 116, 32, 110, 97, 109, 101, 46] (by omega)
  cases hch : charI w who with
  | none =>
    rw [hch] at F4
    simp only [iv, Option.isNone_none, true_or, if_true] at F4 ⊢
    refine goW ?_
    refine ⟨?_, by simp⟩ <;> intros
    exact ret0 ⟨m, rfl, rfl⟩
  | some q =>
    rw [hch] at F4
    simp only [iv, Option.isNone_some, Bool.false_eq_true, false_or] at F4 ⊢
    clear hch
    by_cases hwn : who = name
    · rw [if_pos hwn]
      subst hwn
      refine goW ?_
      refine ⟨?_, by simp⟩ <;> intros
      exact ret0 ⟨m, rfl, rfl⟩
    rw [if_neg hwn]
    clear F5
    refine goW ?_
    (repeat' (first | exact trivial | apply And.intro | intro _))
    all_goals first
      | (exfalso; contradiction)
      | skip
    clear F1 F2 F3 F4
    haveI : Rd (wl d m w) Enc.str A1 y.guests := ⟨(wl_rw (d := d) (m := m) (w := w)).gs _ (List.mem_of_getElem? hz1)⟩
    refine loop (σ := Nat × Option Addr × Nat) (fun s => s.1 ≤ y.guests.length) (fun s => [(0, .pointer (some ⟨t, 0, none⟩)), (1, str name), (2, str who), (7, .int .i64 (k : Int)), (8, .slice s.2.1 ((y.guests.take s.1).filter (fun z => !(z == who))).length s.2.2), (9, .bool ((y.guests.take s.1).contains who)), (10, .int .i64 (s.1 : Int))])
      (fun s => sl Enc.str 9 s.2.1 s.2.2 ((y.guests.take s.1).filter (fun z => !(z == who))) :: ts t d e S u :: wl d m w :: R :: Rs) (fun s => y.guests.length - s.1) (0, none, 0) (Nat.zero_le _) ?_
    rintro ⟨i, A, c2⟩ hi
    simp only at hi ⊢
    by_cases hi2 : i < y.guests.length
    · obtain ⟨z, hz⟩ : ∃ z, y.guests[i]? = some z := ⟨_, List.getElem?_eq_getElem hi2⟩
      have hst := has_stepT (x := who) hz
      have hfl := fil_step (x := who) hz
      have hfn : ((y.guests.take i).filter (fun z => !(z == who))).length ≤ 10000 := Nat.le_trans (List.length_filter_le _ _) (by rw [List.length_take]; omega)
      generalize (y.guests.take i).filter (fun z => !(z == who)) = G at *
      generalize (y.guests.take i).contains who = was at *
      by_cases hzw : z = who
      · have hb : (z == who) = true := by simpa using hzw
        rw [hb, if_pos rfl, List.append_nil] at hfl
        rw [hb, Bool.or_true] at hst
        subst hzw
        replace hst := Bx.mk hst
        replace hfl := Bx.mk hfl
        refine goW ?_
        (repeat' (first | exact trivial | apply And.intro | intro _))
        all_goals first
          | (exfalso; first | contradiction | omega)
          | exact rnd (i + 1, A, c2) hi2 (by simp only; omega) (hx := by simp only [hst.get, hfl.get]; (repeat (first | exact trivial | refine And.intro rfl ?_ | fail))) (hh := by simp only [hfl.get]; (exact ent_))
      · have hb : (z == who) = false := by simpa using hzw
        rw [hb, if_neg (by decide)] at hfl
        rw [hb, Bool.or_false] at hst
        replace hst := Bx.mk hst
        replace hfl := Bx.mk hfl
        refine goW ?_
        (repeat' (first | exact trivial | apply And.intro | intro _))
        all_goals first
          | (exfalso; first | contradiction | exact hzw (by assumption) | omega)
          | (rename Option Addr => A'; rename Nat => c'
             exact rnd (i + 1, A', c') hi2 (by simp only; omega) (hx := by simp only [hst.get, hfl.get]; (repeat (first | exact trivial | refine And.intro rfl ?_ | fail))) (hh := by simp only [hfl.get]; (exact ent_)))
    rw [List.take_of_length_le (by omega)]
    have hpl : (y.guests.filter (fun z => !(z == who))).length ≤ 10000 := Nat.le_trans (List.length_filter_le _ _) hyg
    cases hwas : y.guests.contains who with
    | true =>
      simp only [if_true]
      obtain ⟨G, hG⟩ : ∃ G, G = y.guests.filter (fun z => !(z == who)) := ⟨_, rfl⟩
      have hcp := cap_len who
      have F5 := Cap_spec who (by omega)
      have F6 := say_spec t d e S u name (capT who ++ [32, 109, 97, 121, 32, 110, 111, 116, 32, 99, 111, 109, 101, 46]) (by omega)
      rw [setH_eq hy, ← hG]
      rw [← hG] at hpl
      refine goW ?_
      (repeat' (first | exact trivial | apply And.intro | intro _))
      refine W.setG (i := k) (u := y) (ds := G) (by exact rfl) (by exact rfl) (by exact find_) (by exact find_) rfl rfl hy (by exact incl_) ?_
      refine goW ?_
      (repeat' (first | exact trivial | apply And.intro | intro _))
      all_goals exact ret0 ⟨_, rfl, rfl⟩
    | false =>
      simp only [Bool.false_eq_true, if_false]
      have hfs : y.guests.filter (fun z => !(z == who)) = y.guests := fil_self hwas
      rw [hfs] at hpl ⊢
      rw [setH_eq hy]
      clear hfs hwas
      obtain ⟨g, hg⟩ : ∃ g, g = y.guests := ⟨_, rfl⟩
      rw [← hg] at hpl ⊢
      refine goW ?_
      (repeat' (first | exact trivial | apply And.intro | intro _))
      rename Option Addr => A'
      rename Nat => c'
      refine loop (σ := Nat) (fun j => j ≤ g.length ∧ insK ltTx g who j = insP ltTx g who) (fun j => [(0, .pointer (some ⟨t, 0, none⟩)), (1, str name), (2, str who), (7, .int .i64 (k : Int)), (8, .slice A' (g ++ [who]).length c'), (12, .int .i64 (j : Int))]) (fun j => sl Enc.str 9 A' c' (putAt g j who) :: ts t d e S u :: wl d m w :: R :: Rs) (fun j => j) g.length ⟨Nat.le_refl _, rfl⟩ ?_ ⟨rfl, rfl, rfl, rfl, rfl, congrArg (fun z => some (Value.int .i64 z)) (by rw [List.length_append]; simp), trivial⟩ (by rw [putAt_end]; (exact ent_))
      rintro j ⟨hj1, hj2⟩
      have hjl := putAt_len g j who
      have hal : (g ++ [who]).length = g.length + 1 := by rw [List.length_append]; rfl
      have hps := putAt_self hj1 who
      by_cases hj0 : 0 < j
      · obtain ⟨q2, hq⟩ : ∃ y, g[j - 1]? = some y := ⟨_, List.getElem?_eq_getElem (by omega)⟩
        have hq2 : (putAt g j who)[((j : Int) - 1).toNat]? = some q2 := by rw [show ((j : Int) - 1).toNat = j - 1 by omega, putAt_pre (by omega) hj1]; exact hq
        have hsw := putAt_swap hj0 hq who
        rw [show j - 1 = ((j : Int) - 1).toNat by omega] at hsw
        generalize hL : putAt g j who = L at *
        have hq3 : (L.set ((j : Int) - 1).toNat who)[j]? = some who := by rw [List.getElem?_set_ne (by omega)]; exact hps
        cases hlt : ltTx who q2 with
        | true =>
          have hgo := ins_go hj2 hj0 hq hlt
          rw [ltTx_eq] at hlt
          clear hj2 hq
          replace hsw := Bx.mk hsw
          replace hgo := Bx.mk hgo
          refine goW ?_
          (repeat' (first | exact trivial | apply And.intro | intro _))
          all_goals first
            | (exfalso; first | contradiction | exact Bool.noConfusion (hlt.symm.trans (by assumption : Op.bytesLess who q2 = false)))
            | exact rnd (j - 1) ⟨by omega, hgo.get⟩ (by omega) ⟨rfl, rfl, rfl, rfl, rfl, congrArg (fun z => some (Value.int .i64 z)) (by omega), trivial⟩ (by rw [hsw.get, show ((j : Int) - 1).toNat = j - 1 by omega]; (exact ent_))
        | false =>
          have hend := ins_end hj2 hj0 hq hlt
          rw [hL] at hend
          rw [ltTx_eq] at hlt
          have hnl : ¬ Op.bytesLess who q2 = true := by rw [hlt]; decide
          clear hj2 hq
          have hcp := cap_len who
          have F5 := Cap_spec who (by omega)
          have F6 := say_spec t d e S u name (capT who ++ [32, 109, 97, 121, 32, 99, 111, 109, 101, 46]) (by omega)
          rw [← hend]
          refine goW ?_
          (repeat' (first | exact trivial | apply And.intro | intro _))
          all_goals first
            | (exfalso; contradiction)
            | skip
          refine W.setG (i := k) (u := y) (ds := L) (by exact rfl) (by exact rfl) (by exact find_) (by exact find_) (by rw [hal, hjl]) rfl hy (by exact incl_) ?_
          refine goW ?_
          (repeat' (first | exact trivial | apply And.intro | intro _))
          all_goals exact ret0 ⟨_, rfl, rfl⟩
      · have hk3 : j = 0 := by omega
        subst hk3
        have hend := ins_nil hj2
        generalize putAt g 0 who = L at *
        clear hj2
        have hcp := cap_len who
        have F5 := Cap_spec who (by omega)
        have F6 := say_spec t d e S u name (capT who ++ [32, 109, 97, 121, 32, 99, 111, 109, 101, 46]) (by omega)
        rw [← hend]
        refine goW ?_
        (repeat' (first | exact trivial | apply And.intro | intro _))
        all_goals first
          | (exfalso; contradiction)
          | skip
        refine W.setG (i := k) (u := y) (ds := L) (by exact rfl) (by exact rfl) (by exact find_) (by exact find_) (by rw [hal, hjl]) rfl hy (by exact incl_) ?_
        refine goW ?_
        (repeat' (first | exact trivial | apply And.intro | intro _))
        all_goals exact ret0 ⟨_, rfl, rfl⟩
end
end Go.Proofs.YtflmbhkjhfmeoaaGreat
