/-
  Walks and laws joined: WdSet WdSet2 WdEnd WdInv2.
-/
import Derived.Test.YtflmbhkjhfmeoaaGreatQ10
import Derived.Test.YtflmbhkjhfmeoaaGreatQ09
import Derived.Test.YtflmbhkjhfmeoaaGreatQ36
import Derived.Test.YtflmbhkjhfmeoaaGreatQ37
import Derived.Test.YtflmbhkjhfmeoaaGreatQ26
set_option linter.unusedVariables false
set_option linter.unusedSimpArgs false
namespace Go.Proofs.YtflmbhkjhfmeoaaGreat
open Go.SL
set_option maxHeartbeats 4000000
instance {a : Int} {s : Tx} {x : Int} : Elt Eh [.int .i64 a, str s, .slice none 0 0, .int .i64 x] ((⟨a, s, [], x⟩ : Hse), ((none, 0) : PA)) := ⟨rfl⟩
instance {a b : Tx} {o : Bool} {r h x g k f : Int} : Elt Ec [str a, str b, .bool o, .int .i64 r, .int .i64 h, .int .i64 x, .int .i64 g, .int .i64 k, .int .i64 f, .slice none 0 0] ((⟨a, b, o, r, h, x, g, k, f, []⟩ : Chr), ((none, 0) : PA)) := ⟨rfl⟩
theorem nest_putAt {α : Type} {E : Enc α} {e : TypeId} {ps : List (List α × PA)} {o : Outer} {w : World} {r : List HProp} (k : Nat) (h : Sat o w (nest E e ps :: r)) : Sat o w (nest E e (putAt ps k ([], (none, 0))) :: r) :=
  nest_perm (putAt_perm ps k _) (nest_cons (h.lift (.emp (A := sl E e none 0 []) (sl_emp E e) _)))
section
variable {P : Program} {n : Nat} {o : Outer} {sr : List Tmp} {ops : Array Oper} {Q : Post} {St : List HProp} {rest : List Oper} {xs : Env} {hs : List HProp}
variable {ty : TypeId} {pos : String} {af : Array Edge}
theorem W.setD {t b p i c nl : Nat} {m : Lay} {w : Wld} {A : Option Addr} {ds : List Int} {x y : Operand} {u : Chr} {r r2 : List HProp} [h1 : One P t] (hx : ev xs x = some (.pointer (some ⟨bk m.chA, p, none⟩))) (hy : ev xs y = some (.slice A nl c)) (hf : Find hs (wl b m w) r) (hf2 : Find r (sl E64 3 A c ds) r2) (hn : nl = ds.length) (hp : p = of m.chA + i * 10 + 9) (hu : w.chars[i]? = some u)
    (hI : Keep (freeSt sr ops ⟨none, .store t x y, ty, pos, af, none⟩) St r)
    (k : W P n o sr ops Q St rest xs (wl b { m with dn := m.dn.set i (A, c) } { w with chars := w.chars.set i { u with done := ds } } :: r2)) : W P n o sr ops Q St (⟨none, .store t x y, ty, pos, af, none⟩ :: rest) xs hs := by
  subst hn
  refine wopenw (fun hl => ?_) hf
  obtain ⟨h, hz, hh⟩ := zip_get hu hl.1
  have hi := (List.getElem?_eq_some_iff.1 hu).1
  refine W.st (En := Ec) (i := i) (j := 9) (u := (u, h)) ({ u with done := ds }, (A, c)) hx hy rfl (.there .here) hp rfl hz rfl (by show chrC _ _ = (chrC _ _).set 9 _; simp only [chrC]; rfl) (by repeat (first | exact hI | apply Keep.there)) ?_
  have hd : (dnL w m)[i]? = some (u.done, h) := by simp only [dnL, List.getElem?_map, hz, Option.map_some]
  have hdi := (List.getElem?_eq_some_iff.1 hd).1
  refine W.two (A := sl E64 3 A c ds) (B := nest E64 3 (dnL w m)) (C := nest E64 3 ((dnL w m).set i (ds, (A, c)))) (.there (.there (.there (.there (.there (.there (.there (.there (.there hf2))))))))) (.there (.there (.there (.there (.there (.there (.there .here))))))) (fun st hst => nest_set (p := (ds, (A, c))) hdi hst) ?_
  have ez : (w.chars.zip m.dn).set i ({ u with done := ds }, (A, c)) = (w.chars.set i { u with done := ds }).zip (m.dn.set i (A, c)) := by
    apply List.ext_getElem?
    intro q
    by_cases hq : i = q
    · subst hq
      have h3 := (List.getElem?_eq_some_iff.1 hz).1
      rw [List.getElem?_set_self h3]
      symm
      rw [List.getElem?_zip_eq_some]
      exact ⟨List.getElem?_set_self hi, List.getElem?_set_self (by rw [hl.1]; exact hi)⟩
    · rw [List.getElem?_set_ne hq]
      simp only [List.zip, List.getElem?_zipWith, List.getElem?_set_ne hq]
  refine wfoldw b { m with dn := m.dn.set i (A, c) } { w with chars := w.chars.set i { u with done := ds } } ⟨by rw [List.length_set, List.length_set]; exact hl.1, hl.2⟩ k ?_
  have e1 : wldC { m with dn := m.dn.set i (A, c) } { w with chars := w.chars.set i { u with done := ds } } = wldC m w := by simp only [wldC, List.length_set]
  have e2 : dnL { w with chars := w.chars.set i { u with done := ds } } { m with dn := m.dn.set i (A, c) } = (dnL w m).set i (ds, (A, c)) := by
    simp only [dnL]; rw [← ez, List.map_set]
  rw [e1, e2]
  simp only
  rw [← ez]
  exact (by exact ent_)
end
end Go.Proofs.YtflmbhkjhfmeoaaGreat
namespace Go.Proofs.YtflmbhkjhfmeoaaGreat
open Go.SL
set_option maxHeartbeats 4000000
section
variable {P : Program} {n : Nat} {o : Outer} {sr : List Tmp} {ops : Array Oper} {Q : Post} {St : List HProp} {rest : List Oper} {xs : Env} {hs : List HProp}
variable {ty : TypeId} {pos : String} {af : Array Edge}
theorem W.front {A : HProp} {r : List HProp} (hA : Find hs A r) (k : W P n o sr ops Q St rest xs (A :: r)) : W P n o sr ops Q St rest xs hs := W.one hA (fun _ h => h) k
theorem W.away {A : HProp} {r : List HProp} (hA : Find hs A r) (k : W P n o sr ops Q St rest xs r) : W P n o sr ops Q St rest xs hs := W.turn (fun _ h => (h.lift hA.lift).lift (Lift.drop _ _)) k
theorem W.newHs {t b c nl : Nat} {m : Lay} {w : Wld} {A : Option Addr} {hz : List (Hse × PA)} {x y : Operand} {r r2 : List HProp} (ho : List Hse) (gs : List PA) [h1 : One P t] (hx : ev xs x = some (.pointer (some ⟨b, 6, none⟩))) (hy : ev xs y = some (.slice A nl c)) (hf : Find hs (wl b m w) r) (hf2 : Find r (sl Eh 107 A c hz) r2) (hze : hz = ho.zip gs) (hgl : gs.length = ho.length) (hn : nl = ho.length)
    (hI : Keep (freeSt sr ops ⟨none, .store t x y, ty, pos, af, none⟩) St r)
    (hp : ∀ (st : World) (q : List HProp), Sat o st (nest Enc.str 9 (gsL w m) :: q) → Sat o st (nest Enc.str 9 ((ho.zip gs).map fun p => (p.1.guests, p.2)) :: q))
    (k : W P n o sr ops Q St rest xs (wl b { m with hoA := A, hoC := c, gs := gs } { w with houses := ho } :: r2)) : W P n o sr ops Q St (⟨none, .store t x y, ty, pos, af, none⟩ :: rest) xs hs := by
  subst hn hze
  refine wopenw (fun hl => ?_) hf
  refine W.store hx hy rfl .here (setAt_of (by show 6 < 9; decide)) (by repeat (first | exact hI | apply Keep.there)) ?_
  have e1 : wldC { m with hoA := A, hoC := c, gs := gs } { w with houses := ho } = (wldC m w).set 6 (.slice A ho.length c) := by simp only [wldC, List.set_cons_succ, List.set_cons_zero]
  rw [← e1]
  refine W.one (A := nest Enc.str 9 (gsL w m)) (C := nest Enc.str 9 ((ho.zip gs).map fun p => (p.1.guests, p.2))) (.there (.there (.there (.there (.there (.there (.there (.there .here)))))))) (fun st hst => hp st _ hst) ?_
  refine W.away (A := sl Eh 107 m.hoA m.hoC (w.houses.zip m.gs)) (.there (.there (.there (.there (.there .here))))) ?_
  refine W.front (A := sl Eh 107 A c (ho.zip gs)) (.there (.there (.there (.there (.there (.there (.there (.there hf2)))))))) ?_
  refine wfoldw b { m with hoA := A, hoC := c, gs := gs } { w with houses := ho } ⟨hl.1, hgl⟩ k ?_
  exact (by exact ent_)
theorem W.newCs {t b c nl : Nat} {m : Lay} {w : Wld} {A : Option Addr} {hz : List (Chr × PA)} {x y : Operand} {r r2 : List HProp} (ch : List Chr) (dn : List PA) [h1 : One P t] (hx : ev xs x = some (.pointer (some ⟨b, 3, none⟩))) (hy : ev xs y = some (.slice A nl c)) (hf : Find hs (wl b m w) r) (hf2 : Find r (sl Ec 80 A c hz) r2) (hze : hz = ch.zip dn) (hgl : dn.length = ch.length) (hn : nl = ch.length)
    (hI : Keep (freeSt sr ops ⟨none, .store t x y, ty, pos, af, none⟩) St r)
    (hp : ∀ (st : World) (q : List HProp), Sat o st (nest E64 3 (dnL w m) :: q) → Sat o st (nest E64 3 ((ch.zip dn).map fun p => (p.1.done, p.2)) :: q))
    (k : W P n o sr ops Q St rest xs (wl b { m with chA := A, chC := c, dn := dn } { w with chars := ch } :: r2)) : W P n o sr ops Q St (⟨none, .store t x y, ty, pos, af, none⟩ :: rest) xs hs := by
  subst hn hze
  refine wopenw (fun hl => ?_) hf
  refine W.store hx hy rfl .here (setAt_of (by show 3 < 9; decide)) (by repeat (first | exact hI | apply Keep.there)) ?_
  have e1 : wldC { m with chA := A, chC := c, dn := dn } { w with chars := ch } = (wldC m w).set 3 (.slice A ch.length c) := by simp only [wldC, List.set_cons_succ, List.set_cons_zero]
  rw [← e1]
  refine W.one (A := nest E64 3 (dnL w m)) (C := nest E64 3 ((ch.zip dn).map fun p => (p.1.done, p.2))) (.there (.there (.there (.there (.there (.there (.there .here))))))) (fun st hst => hp st _ hst) ?_
  refine W.away (A := sl Ec 80 m.chA m.chC (w.chars.zip m.dn)) (.there (.there .here)) ?_
  refine W.front (A := sl Ec 80 A c (ch.zip dn)) (.there (.there (.there (.there (.there (.there (.there (.there hf2)))))))) ?_
  refine wfoldw b { m with chA := A, chC := c, dn := dn } { w with chars := ch } ⟨hgl, hl.2⟩ k ?_
  exact (by exact ent_)
theorem W.setG {t b p i c nl : Nat} {m : Lay} {w : Wld} {A : Option Addr} {ds : List Tx} {x y : Operand} {u : Hse} {r r2 : List HProp} [h1 : One P t] (hx : ev xs x = some (.pointer (some ⟨bk m.hoA, p, none⟩))) (hy : ev xs y = some (.slice A nl c)) (hf : Find hs (wl b m w) r) (hf2 : Find r (sl Enc.str 9 A c ds) r2) (hn : nl = ds.length) (hp : p = of m.hoA + i * 4 + 2) (hu : w.houses[i]? = some u)
    (hI : Keep (freeSt sr ops ⟨none, .store t x y, ty, pos, af, none⟩) St r)
    (k : W P n o sr ops Q St rest xs (wl b { m with gs := m.gs.set i (A, c) } { w with houses := w.houses.set i { u with guests := ds } } :: r2)) : W P n o sr ops Q St (⟨none, .store t x y, ty, pos, af, none⟩ :: rest) xs hs := by
  subst hn
  refine wopenw (fun hl => ?_) hf
  obtain ⟨h, hz, hh⟩ := zip_get hu hl.2
  have hi := (List.getElem?_eq_some_iff.1 hu).1
  refine W.st (En := Eh) (i := i) (j := 2) (u := (u, h)) ({ u with guests := ds }, (A, c)) hx hy rfl (.there (.there (.there (.there .here)))) hp rfl hz rfl (by show hseC _ _ = (hseC _ _).set 2 _; simp only [hseC]; rfl) (by repeat (first | exact hI | apply Keep.there)) ?_
  have hd : (gsL w m)[i]? = some (u.guests, h) := by simp only [gsL, List.getElem?_map, hz, Option.map_some]
  have hdi := (List.getElem?_eq_some_iff.1 hd).1
  refine W.two (A := sl Enc.str 9 A c ds) (B := nest Enc.str 9 (gsL w m)) (C := nest Enc.str 9 ((gsL w m).set i (ds, (A, c)))) (.there (.there (.there (.there (.there (.there (.there (.there (.there hf2))))))))) (.there (.there (.there (.there (.there (.there (.there (.there .here)))))))) (fun st hst => nest_set (p := (ds, (A, c))) hdi hst) ?_
  have ez : (w.houses.zip m.gs).set i ({ u with guests := ds }, (A, c)) = (w.houses.set i { u with guests := ds }).zip (m.gs.set i (A, c)) := by
    apply List.ext_getElem?
    intro q
    by_cases hq : i = q
    · subst hq
      have h3 := (List.getElem?_eq_some_iff.1 hz).1
      rw [List.getElem?_set_self h3]
      symm
      rw [List.getElem?_zip_eq_some]
      exact ⟨List.getElem?_set_self hi, List.getElem?_set_self (by rw [hl.2]; exact hi)⟩
    · rw [List.getElem?_set_ne hq]
      simp only [List.zip, List.getElem?_zipWith, List.getElem?_set_ne hq]
  refine wfoldw b { m with gs := m.gs.set i (A, c) } { w with houses := w.houses.set i { u with guests := ds } } ⟨hl.1, by rw [List.length_set, List.length_set]; exact hl.2⟩ k ?_
  have e1 : wldC { m with gs := m.gs.set i (A, c) } { w with houses := w.houses.set i { u with guests := ds } } = wldC m w := by simp only [wldC, List.length_set]
  have e2 : gsL { w with houses := w.houses.set i { u with guests := ds } } { m with gs := m.gs.set i (A, c) } = (gsL w m).set i (ds, (A, c)) := by
    simp only [gsL]; rw [← ez, List.map_set]
  rw [e1, e2]
  simp only
  rw [← ez]
  exact (by exact ent_)
end
end Go.Proofs.YtflmbhkjhfmeoaaGreat
namespace Go.Proofs.YtflmbhkjhfmeoaaGreat
open Go.SL
set_option maxHeartbeats 8000000
set_option maxRecDepth 20000
structure Ends (I : Nat → Wld → Prop) : Prop where
  bw : ∀ i w, I i w → Bw w
  nl : ∀ i w, I i w → w.lots.length ≤ 10
  lo : ∀ i w l, I i w → l ∈ w.lots → (0 ≤ l.bid ∧ l.bid ≤ 1099511627776) ∧ (∃ cs, charI w l.seller = some cs) ∧ -4611686018427387904 ≤ l.ends ∧ l.ends ≤ 4611686018427387904
  rg : ∀ i w, I i w → (∀ x ∈ w.chars, (0 ≤ x.gold ∧ x.gold ≤ 1099511627776) ∧ 0 ≤ x.bank ∧ x.bank ≤ 1099511627776) ∧ (-4611686018427387904 ≤ w.minted ∧ w.minted ≤ 4611686018427387904) ∧ -4611686018427387904 ≤ w.now ∧ w.now ≤ 4611686018427387904
  up : ∀ i w, i < 10 → I i w → I (i + 1) w
  go : ∀ i w l x, i < 10 → I i w → l ∈ w.lots → settleA w l = some x → I (i + 1) x.1 ∧ x.1.lots = w.lots ∧ x.2.length ≤ 2
section
variable (t d e : Nat) (m : Lay) (w : Wld) (mt : Tay) (tab : Tab) (S : List Sy) (u : Int)
theorem settle_spec (I : Nat → Wld → Prop) (hI : Ends I) (i : Nat) (hw : I i w) (lm : Laid m w) (l : Lot) (hl : l ∈ w.lots) (hS : S.length ≤ 200000) :
    Trip Tryz.prog 238 [.pointer (some ⟨t, 0, none⟩), .agg (lotC l).toArray] [ts t d e S u, wl d m w] (fun v Ps => v = .bool (settleA w l).isSome ∧ Ps = [ts t d e (S ++ ((settleA w l).getD (w, [])).2) u, wl d m ((settleA w l).getD (w, [])).1]) := by
  obtain ⟨hb, ⟨cs, hse⟩, _⟩ := hI.lo i w l hw hl
  obtain ⟨r1, r2, _⟩ := hI.rg i w hw
  by_cases h0 : l.bid = 0
  · exact settle_none t d e m w S u (hI.bw i w hw) lm l h0 hS
  · by_cases hld : loadN w l.bidder < 10
    · exact settle_bidA t d e m w S u (hI.bw i w hw) lm l (by omega) hb cs hse r1 r2 hld hS
    · exact settle_bidB t d e m w S u (hI.bw i w hw) lm l (by omega) hb cs hse r1 r2 hld hS
theorem End_spec (I : Nat → Wld → Prop) (hI : Ends I) (hw : I 0 w) (hS : S.length ≤ 100000) :
    Trip Tryz.prog 163 [.pointer (some ⟨t, 0, none⟩)] [ts t d e S u, wl d m w] (fun v Ps => ∃ m', v = .tuple #[] ∧ Ps = [ts t d e (S ++ (endA w).2) u, wl d m' (endA w).1]) := by
  refine Trip.of (m := 61) Tryz.func163 rfl rfl rfl ?_
  intro o Rs
  simp only [List.cons_append, List.nil_append, enumFrom]
  unfold endA
  have hnl := hI.nl 0 w hw
  refine goW ?_
  refine ⟨?_, by simp⟩ <;> intros
  refine loop (σ := Nat × Wld × List Sy × List Lot × Option Addr × Nat) (fun s => s.1 ≤ w.lots.length ∧ endGo w.lots w [] [] = endGo (w.lots.drop s.1) s.2.1 s.2.2.1 s.2.2.2.1 ∧ I s.1 s.2.1 ∧ s.2.1.lots = w.lots ∧ s.2.2.1.length ≤ 2 * s.1 ∧ s.2.2.2.1.length ≤ s.1)
    (fun s => [(0, .pointer (some ⟨t, 0, none⟩)), (2, .slice s.2.2.2.2.1 s.2.2.2.1.length s.2.2.2.2.2), (3, .slice m.loA w.lots.length m.loC), (4, .int .i64 (s.1 : Int))])
    (fun s => sl El 129 s.2.2.2.2.1 s.2.2.2.2.2 s.2.2.2.1 :: ts t d e (S ++ s.2.2.1) u :: wl d m s.2.1 :: Rs) (fun s => w.lots.length - s.1) (0, w, [], [], none, 0) ⟨Nat.zero_le _, rfl, hw, rfl, Nat.zero_le _, Nat.zero_le _⟩ ?_ (by (repeat (first | exact trivial | refine And.intro rfl ?_ | fail))) (by rw [List.append_nil]; (exact ent_))
  rintro ⟨i, w1, S1, left, A, c⟩ ⟨h1, h2, h3, h4, h5, h6⟩
  simp only at h1 h2 h3 h4 h5 h6 ⊢
  refine cwl (d := d) (m := m) (t := w1) fun lm1 => ?_
  by_cases hi : i < w.lots.length
  · obtain ⟨l, hl⟩ : ∃ l, w.lots[i]? = some l := ⟨_, List.getElem?_eq_getElem hi⟩
    have hl1 : w1.lots[i]? = some l := by rw [h4]; exact hl
    have hlm := List.mem_of_getElem? hl1
    have hld : w.lots.drop i = l :: w.lots.drop (i + 1) := by rw [List.drop_eq_getElem_cons hi, (List.getElem?_eq_some_iff.1 hl).2]
    have hlen : w1.lots.length = w.lots.length := by rw [h4]
    obtain ⟨lb, _, le1, le2⟩ := hI.lo i w1 l h3 hlm
    obtain ⟨_, _, rn1, rn2⟩ := hI.rg i w1 h3
    have h3u := hI.up i w1 (by omega) h3
    rw [hld, endGo] at h2
    by_cases hnow : w1.now < l.ends
    · rw [if_pos hnow] at h2
      replace h2 := Bx.mk h2
      clear hI hl hlm hld
      refine goW ?_
      (repeat' (first | exact trivial | apply And.intro | intro _))
      all_goals first
        | (exfalso; first | contradiction | omega)
        | (rename Option Addr => A'; rename Nat => c'
           exact rnd (i + 1, w1, S1, left ++ [l], A', c') ⟨hi, h2.get, h3u, h4, by simp only; omega, by simp only [List.length_append, List.length_cons, List.length_nil]; omega⟩ (by simp only; omega))
    · rw [if_neg hnow] at h2
      have F1 := settle_spec t d e m w1 (S ++ S1) u I hI i h3 lm1 l hlm (by rw [List.length_append]; omega)
      rw [List.append_assoc] at F1
      cases hse : settleA w1 l with
      | none =>
        rw [hse] at F1 h2
        simp only [Option.isSome_none, Option.getD_none, List.append_nil] at F1 h2
        replace h2 := Bx.mk h2
        clear hI hl hlm hld hse
        refine goW ?_
        (repeat' (first | exact trivial | apply And.intro | intro _))
        all_goals first
          | (exfalso; first | contradiction | omega)
          | (rename Option Addr => A'; rename Nat => c'
             exact rnd (i + 1, w1, S1, left ++ [{ l with ends := w1.now + 1 }], A', c') ⟨hi, h2.get, h3u, h4, by simp only; omega, by simp only [List.length_append, List.length_cons, List.length_nil]; omega⟩ (by simp only; omega))
      | some r =>
        obtain ⟨g1, g2, g3⟩ := hI.go i w1 l r (by omega) h3 hlm hse
        rw [hse] at F1 h2
        simp only [Option.isSome_some, Option.getD_some] at F1 h2
        replace h2 := Bx.mk h2
        clear hI hl hlm hld hse
        refine goW ?_
        (repeat' (first | exact trivial | apply And.intro | intro _))
        all_goals first
          | (exfalso; first | contradiction | omega)
          | exact rnd (i + 1, r.1, S1 ++ r.2, left, A, c) ⟨hi, h2.get, g1, g2.trans h4, by simp only [List.length_append]; omega, by simp only; omega⟩ (by simp only; omega)
  · rw [List.drop_eq_nil_of_le (by omega), endGo] at h2
    rw [h2]
    clear hI h2
    refine copenw (d := d) (m := m) (w := w1) fun _ => ?_
    simp only [List.cons_append, List.nil_append]
    refine go ?_
    (repeat' (first | exact trivial | apply And.intro | intro _))
    all_goals (
      refine efoldw d { m with loA := A, loC := c } { w1 with lots := left } lm1 ?_
      exact ret0 ⟨_, rfl, rfl⟩)
end
end Go.Proofs.YtflmbhkjhfmeoaaGreat
namespace Go.Proofs.YtflmbhkjhfmeoaaGreat
section
variable {t : Tab} {s K : Nat} {w : Wld}
theorem Iv.setC (h : Iv t s K w) {c : Nat} {x : Chr} (hx : w.chars[c]? = some x) (f : Chr → Chr) (hn : (f x).name = x.name) (hk : Cok s (f x)) : Iv t s K (setC w c f) := ⟨h.w0.setC hx f hn hk, h.lt⟩
theorem Iv.ck (h : Iv t s K w) {c : Nat} {x : Chr} (hx : w.chars[c]? = some x) : Cok s x := h.w0.ch x (List.mem_of_getElem? hx)
theorem iv_goes (h : Iv t s K w) {c : Nat} {x : Chr} (hx : w.chars[c]? = some x) (room : Int) : Iv t s K (goesA t w c room).1 := by
  have k := h.ck hx
  exact h.setC hx (fun x => { x with room := room }) rfl ⟨k.nm, k.go, k.ba, k.xp, k.hp, k.dn⟩
theorem iv_go (h : Iv t s K w) (name : Tx) (dir : Int) : Iv t s K (goA t w name dir).1 := by
  unfold goA
  split
  · exact h
  · rename_i c hc
    obtain ⟨x, hx, _⟩ := on_at hc
    simp only
    split
    · exact h
    · split
      · exact h
      · split
        · exact h
        · exact iv_goes h hx _
theorem iv_flee (h : Iv t s K w) (name : Tx) (roll : Int) : Iv t s K (fleeA t w name roll).1 := by
  unfold fleeA
  split
  · exact h
  · rename_i c hc
    obtain ⟨x, hx, _⟩ := on_at hc
    simp only
    split
    · exact h
    · split
      · exact h
      · have k := h.ck hx
        have h2 : Iv t s K (Go.Proofs.YtflmbhkjhfmeoaaGreat.setC w c fun x => { x with foe := 0 }) := h.setC hx _ rfl ⟨k.nm, k.go, k.ba, k.xp, k.hp, k.dn⟩
        have hx2 : (Go.Proofs.YtflmbhkjhfmeoaaGreat.setC w c fun x => { x with foe := 0 }).chars[c]? = some { x with foe := 0 } := by
          rw [Go.Proofs.YtflmbhkjhfmeoaaGreat.setC, getD_of hx]
          exact List.getElem?_set_self (List.getElem?_eq_some_iff.1 hx).1
        exact iv_goes h2 hx2 _
theorem iv_get (h : Iv t s K w) (num : Tx → Int × Bool) (name word : Tx) : Iv t s K (getA num t w name word).1 := by
  unfold getA
  split
  · exact h
  · rename_i c hc
    simp only
    split
    · exact h
    · rename_i k hf
      split
      · exact h
      · obtain ⟨x, hx, hp⟩ := here_at (findA_mem hf)
        exact h.putW hx (by omega) _ _ _
theorem iv_drop (h : Iv t s K w) (num : Tx → Int × Bool) (name word : Tx) : Iv t s K (dropA num t w name word).1 := by
  unfold dropA
  split
  · exact h
  · rename_i c hc
    split
    · exact h
    · rename_i k hf
      simp only
      split
      · exact h
      · obtain ⟨x, hx, hp, _⟩ := of_at (findA_mem hf)
        exact h.putW hx (by omega) _ _ _
theorem iv_give (h : Iv t s K w) (num : Tx → Int × Bool) (lower : Tx → Tx) (name word to0 : Tx) : Iv t s K (giveA num lower t w name word to0).1 := by
  unfold giveA
  split
  · exact h
  · rename_i c hc
    split
    · exact h
    · rename_i k hf
      simp only
      split
      · exact h
      · split
        · exact h
        · split
          · exact h
          · obtain ⟨x, hx, hp, _⟩ := of_at (findA_mem hf)
            exact h.putW hx (by omega) _ _ _
theorem iv_wear (h : Iv t s K w) (num : Tx → Int × Bool) (name word : Tx) : Iv t s K (wearA num t w name word).1 := by
  unfold wearA
  split
  · exact h
  · rename_i c hc
    split
    · exact h
    · rename_i k hf
      split
      · exact h
      · split
        · exact h
        · obtain ⟨x, hx, hp, _⟩ := of_at (findA_mem hf)
          exact h.putW hx (by omega) _ _ _
theorem iv_remove (h : Iv t s K w) (num : Tx → Int × Bool) (name word : Tx) : Iv t s K (removeA num t w name word).1 := by
  unfold removeA
  split
  · exact h
  · rename_i c hc
    split
    · exact h
    · rename_i k hf
      obtain ⟨x, hx, hp, _⟩ := of_at (findA_mem hf)
      exact h.putW hx (by omega) _ _ _
theorem iv_kill (h : Iv t s K w) (num : Tx → Int × Bool) (name word : Tx) : Iv t s K (killA num t w name word).1 := by
  unfold killA
  split
  · exact h
  · rename_i c hc
    obtain ⟨x, hx, _⟩ := on_at hc
    simp only
    split
    · exact h
    · split
      · exact h
      · rename_i i hi
        have k := h.ck hx
        exact h.setC hx (fun x => { x with foe := (w.mobs.getD i default).id }) rfl ⟨k.nm, k.go, k.ba, k.xp, k.hp, k.dn⟩
theorem items_at {s0 : Nat} {x : Nat} (g : Good t) {y : Shp} (hy : t.shops[s0]? = some y) (h : x ∈ itemsP t s0) : ∃ p, t.protos[x]? = some p := by
  unfold itemsP at h
  rw [getD_of hy] at h
  obtain ⟨id, hid, rfl⟩ := List.mem_map.1 h
  obtain ⟨k, hk⟩ := (g.so y (List.mem_of_getElem? hy)).ip id hid
  obtain ⟨p, hp, _⟩ := find_get hk
  rw [hk]
  exact ⟨p, hp⟩
theorem proto_in {k : Nat} {p : Pro} (h : t.protos[k]? = some p) : ∃ k, protoI t p.id = some k := by
  cases hq : protoI t p.id with
  | some k => exact ⟨k, rfl⟩
  | none =>
    unfold protoI at hq
    rw [List.findIdx?_eq_none_iff] at hq
    have := hq p (List.mem_of_getElem? h)
    simp at this
theorem shop_at {r : Int} {a b : Nat} (h : shopI t w r = some (a, b)) : (∃ y, t.shops[a]? = some y) ∧ ∃ z, w.tills[b]? = some z := by
  unfold shopI at h
  split at h
  · rename_i i k2 hi hk
    simp only [Option.some.injEq, Prod.mk.injEq] at h
    obtain ⟨rfl, rfl⟩ := h
    obtain ⟨y, hy, _⟩ := find_get hi
    obtain ⟨z, hz, _⟩ := find_get hk
    exact ⟨⟨y, hy⟩, ⟨z, hz⟩⟩
  · cases h
theorem iv_buy (g : Good t) (h : Iv t s K w) (name word : Tx) : Iv t s (K + 1) (buyA t w name word).1 := by
  have hm := h.mono (Nat.le_refl s) (Nat.le_succ K)
  unfold buyA
  split
  · exact hm
  · rename_i c hc
    obtain ⟨x, hx, _⟩ := on_at hc
    split
    · exact hm
    · rename_i s0 k hs
      obtain ⟨⟨y, hy⟩, z, hz⟩ := shop_at hs
      split
      · exact hm
      · rename_i at0 hf
        obtain ⟨p, hp⟩ := items_at g hy (List.mem_of_find?_eq_some hf)
        simp only [getD_of hp, getD_of hx, getD_of hz]
        split
        · exact hm
        · split
          · exact hm
          · split
            · exact hm
            · rename_i hcan
              have k1 := h.ck hx
              have k2 := h.w0.ti z (List.mem_of_getElem? hz)
              have hmv := move_ok x.gold z.gold p.price k1.go k2
              have h1 := h.makeW (by simpa [canMake] using hcan) (proto_in hp) 2 0 name
              have h2 := h1.setC (x := x) hx (fun y => { y with gold := (moveN x.gold z.gold p.price).1 }) rfl ⟨k1.nm, hmv.1, k1.ba, k1.xp, k1.hp, k1.dn⟩
              have h3 := h2.w0.setI (x := z) hz (fun y => { y with gold := (moveN x.gold z.gold p.price).2.1 }) hmv.2
              exact ⟨h3, h2.lt⟩
theorem iv_sell (h : Iv t s K w) (num : Tx → Int × Bool) (name word : Tx) : Iv t s K (sellA num t w name word).1 := by
  unfold sellA
  split
  · exact h
  · rename_i c hc
    obtain ⟨x, hx, _⟩ := on_at hc
    split
    · exact h
    · rename_i s0 k hs
      obtain ⟨⟨y, hy⟩, z, hz⟩ := shop_at hs
      split
      · exact h
      · rename_i i hf
        obtain ⟨th, hth, hpl, _⟩ := of_at (findA_mem hf)
        simp only [getD_of hth, getD_of hx, getD_of hz]
        generalize (proOf t th.proto).price = pr
        split
        · exact h
        · have k1 := h.ck hx
          have k2 := h.w0.ti z (List.mem_of_getElem? hz)
          have hmv := move_ok z.gold x.gold (pr / 2) k2 k1.go
          generalize moveN z.gold x.gold (pr / 2) = mv at *
          have h1 : Iv t s K (Go.Proofs.YtflmbhkjhfmeoaaGreat.setI w k fun x => { x with gold := mv.1 }) := ⟨h.w0.setI hz _ hmv.1, h.lt⟩
          have h2 := h1.setC (x := x) hx (fun x => { x with gold := mv.2.1 }) rfl ⟨k1.nm, hmv.2, k1.ba, k1.xp, k1.hp, k1.dn⟩
          refine h2.goneW fun u hu he => ?_
          have hu2 : u ∈ w.things := hu
          have := uniq h.w0.up hu2 (List.mem_of_getElem? hth) he
          rw [this]; omega
theorem iv_bank (h : Iv t s K w) (num : Tx → Int × Bool) (name q : Tx) (back : Bool) : Iv t s K (bankA num t w name q back).1 := by
  unfold bankA
  split
  · exact h
  · rename_i c hc
    obtain ⟨x, hx, _⟩ := on_at hc
    split
    · exact h
    · split
      · exact h
      · rename_i n hn
        have k1 := h.ck hx
        have m1 := move_ok x.bank x.gold n k1.ba k1.go
        have m2 := move_ok x.gold x.bank n k1.go k1.ba
        simp only [getD_of hx]
        cases back
        · simp only [Bool.false_eq_true, if_false]
          split
          · exact h
          · exact h.setC hx (fun y => { y with bank := (moveN x.gold x.bank n).2.1, gold := (moveN x.gold x.bank n).1 }) rfl ⟨k1.nm, m2.1, m2.2, k1.xp, k1.hp, k1.dn⟩
        · simp only [if_true]
          split
          · exact h
          · exact h.setC hx (fun y => { y with bank := (moveN x.bank x.gold n).1, gold := (moveN x.bank x.gold n).2.1 }) rfl ⟨k1.nm, m1.2, m1.1, k1.xp, k1.hp, k1.dn⟩
theorem spare_id {name : Tx} {p : Int} {used : List Int} (h : spareN w name p used ≠ 0) : ∃ x ∈ w.things, x.id = spareN w name p used ∧ x.place = 2 := by
  unfold spareN at h ⊢
  split at h
  · exact absurd rfl h
  · rename_i i hi
    obtain ⟨x, hx, hp, _⟩ := of_at (List.mem_of_find?_eq_some hi)
    rw [getD_of hx]
    exact ⟨x, List.mem_of_getElem? hx, rfl, hp⟩
theorem uses_id {name : Tx} : ∀ (l : List Int) (used : List Int) (r : List Int), usesOf w name l used = .inl r → (∀ id ∈ used, ∃ x ∈ w.things, x.id = id ∧ x.place = 2) → ∀ id ∈ r, ∃ x ∈ w.things, x.id = id ∧ x.place = 2
  | [], used, r, h, hu => by
    rw [usesOf] at h
    simp only [Sum.inl.injEq] at h
    subst h; exact hu
  | p :: l, used, r, h, hu => by
    rw [usesOf] at h
    split at h
    · cases h
    · rename_i h0
      refine uses_id l _ r h fun id hid => ?_
      rcases List.mem_append.1 hid with hid | hid
      · exact hu id hid
      · rw [List.mem_singleton.1 hid]; exact spare_id h0
theorem uses_gone (h : Iv t s K w) {name : Tx} {l r : List Int} (hu : usesOf w name l [] = .inl r) : Iv t s K (r.foldl goneW w) := by
  refine gones_iv r h fun id hid x hx he => ?_
  obtain ⟨y, hy, h1, h2⟩ := uses_id l [] r hu (fun _ h => by cases h) id hid
  have := uniq h.w0.up hx hy (he.trans h1.symm)
  rw [this]; omega
theorem iv_craft (g : Good t) (h : Iv t s K w) (name word : Tx) : Iv t s (K + 1) (craftA t w name word).1 := by
  have hm := h.mono (Nat.le_refl s) (Nat.le_succ K)
  unfold craftA
  split
  · exact hm
  · rename_i c hc
    split
    · exact hm
    · split
      · exact hm
      · rename_i at0 hf
        obtain ⟨r, hr, _⟩ := find_get hf
        rw [getD_of hr]
        split
        · exact hm
        · rename_i used hu
          exact (uses_gone h hu).makeIf (g.co r (List.mem_of_getElem? hr)).oi 2 0 name
theorem insB_len {α : Type} (lt : α → α → Bool) (l : List α) (x : α) : (insB lt l x).length = l.length + 1 := putAt_len _ _ _
theorem insB_mem {α : Type} (lt : α → α → Bool) (l : List α) (x y : α) : y ∈ insB lt l x ↔ y = x ∨ y ∈ l := by
  unfold insB
  rw [← (putAt_perm l (insP lt l x) x).mem_iff, List.mem_cons]
theorem iv_turn (g : Good t) (h : Iv t s K w) (num : Tx → Int × Bool) (name q : Tx) : Iv t (s + 1) (K + 2) (turnA num t w name q).1 := by
  have hm := h.mono (Nat.le_succ s) (show K ≤ K + 2 by omega)
  unfold turnA
  split
  · exact hm
  · rename_i c hc
    obtain ⟨x, hx, _⟩ := on_at hc
    split
    · exact hm
    · rename_i at0 hat
      have hat2 : ∃ y, t.quests[at0]? = some y := by
        split at hat
        · obtain ⟨y, hy, _⟩ := pos_mem (List.mem_of_getLast? hat)
          exact ⟨y, hy⟩
        · cases hat
      obtain ⟨q, hq⟩ := hat2
      simp only [getD_of hq, getD_of hx]
      have gq := g.qo q (List.mem_of_getElem? hq)
      split
      · exact hm
      · split
        · exact hm
        · rename_i used hu
          split
          · exact hm
          · rename_i hgo
            have k1 := h.ck hx
            have h1 := uses_gone h hu
            have hx1 : (used.foldl goneW w).chars[c]? = some x := by rw [gones_chars0]; exact hx
            generalize used.foldl goneW w = w1 at *
            unfold maxGold at hgo
            have h2 := h1.setC hx1 (fun y => { y with gold := y.gold + q.gold }) rfl ⟨k1.nm, by have := k1.go; have := gq.go; simp only; omega, k1.ba, k1.xp, k1.hp, k1.dn⟩
            have h3 : Iv t s (K + 1) { Go.Proofs.YtflmbhkjhfmeoaaGreat.setC w1 c (fun y => { y with gold := y.gold + q.gold }) with minted := w1.minted + q.gold } := ⟨h2.w0.mint q.gold (by have := gq.go; omega) (by have := gq.go; omega), h2.lt⟩
            have hx3 : ({ Go.Proofs.YtflmbhkjhfmeoaaGreat.setC w1 c (fun y => { y with gold := y.gold + q.gold }) with minted := w1.minted + q.gold } : Wld).chars[c]? = some { x with gold := x.gold + q.gold } := by
              simp only [Go.Proofs.YtflmbhkjhfmeoaaGreat.setC, getD_of hx1]
              exact List.getElem?_set_self (List.getElem?_eq_some_iff.1 hx1).1
            generalize ({ Go.Proofs.YtflmbhkjhfmeoaaGreat.setC w1 c (fun y => { y with gold := y.gold + q.gold }) with minted := w1.minted + q.gold } : Wld) = w2 at *
            have h4 : Iv t s (K + 2) (if q.reward = 0 then w2 else makeIf w2 q.reward 2 0 name) ∧ (if q.reward = 0 then w2 else makeIf w2 q.reward 2 0 name).chars = w2.chars := by
              split
              · exact ⟨h3.mono (Nat.le_refl s) (by omega), rfl⟩
              · rename_i hr
                refine ⟨h3.makeIf (gq.re.2.resolve_left hr) 2 0 name, ?_⟩
                unfold makeIf; split <;> rfl
            generalize (if q.reward = 0 then w2 else makeIf w2 q.reward 2 0 name) = w3 at *
            obtain ⟨h4, h5⟩ := h4
            rw [← h5] at hx3
            have k2 := (h4.ck hx3)
            exact (h4.mono (Nat.le_succ s) (Nat.le_refl _)).setC hx3 (fun y => { y with done := insB (fun a b => decide (a < b)) y.done q.id }) rfl ⟨k2.nm, k2.go, k2.ba, k2.xp, k2.hp, by simp only [insB_len]; have := k2.dn; simp only at this; omega⟩
theorem iv_buyHouse (g : Good t) (h : Iv t s K w) (name : Tx) : Iv t (s + 1) (K + 1) (buyHouseA t w name).1 := by
  have hm := h.mono (Nat.le_succ s) (Nat.le_succ K)
  unfold buyHouseA
  split
  · exact hm
  · rename_i c hc
    obtain ⟨x, hx, _⟩ := on_at hc
    simp only [getD_of hx]
    split
    · exact hm
    · split
      · exact hm
      · have key : ∀ p : Int, 0 ≤ p ∧ p ≤ 1073741824 → Iv t (s + 1) (K + 1) (if x.gold < p then (w, ([(name, [89, 111, 117, 32, 99, 97, 110, 110, 111, 116, 32, 112, 97, 121, 46])] : List Sy)) else ({ Go.Proofs.YtflmbhkjhfmeoaaGreat.setC w c fun x => { x with gold := x.gold - p } with minted := w.minted - p, houses := insB (fun a b => decide (a.room < b.room)) w.houses ⟨x.room, name, [], 0⟩ }, [(name, [73, 116, 32, 105, 115, 32, 121, 111, 117, 114, 115, 46])])).1 := by
          intro p hpp
          split
          · exact hm
          · rename_i hgo
            have k1 := h.ck hx
            have h2 := h.setC hx (fun y => { y with gold := y.gold - p }) rfl ⟨k1.nm, by have := k1.go; simp only; omega, k1.ba, k1.xp, k1.hp, k1.dn⟩
            have h3 := (h2.w0.mint (-p) (by omega) (by omega)).mono (Nat.le_succ s) (Nat.le_refl _)
            refine ⟨{ h3 with
              nh := by simp only [insB_len]; have := h.w0.nh; omega
              hc := fun y hy => by
                simp only [insB_mem] at hy
                rcases hy with rfl | hy
                · exact ⟨by simp only; omega, Nat.zero_le _⟩
                · exact ⟨(h.w0.hc y hy).1, Nat.le_succ_of_le (h.w0.hc y hy).2⟩
              mi := by have h4 := h.w0.mi; simp only; omega }, h2.lt⟩
        cases hk : roomI t x.room with
        | none => exact key 0 (by omega)
        | some k =>
          obtain ⟨r, hr, _⟩ := find_get hk
          simp only [getD_of hr]
          exact key r.price (g.ro r (List.mem_of_getElem? hr)).pr
theorem mine_at {name : Tx} {c k : Nat} (h : mineI t w name c = .inl k) : ∃ y, w.houses[k]? = some y := by
  unfold mineI at h
  split at h
  · cases h
  · split at h
    · cases h
    · rename_i k2 hk
      split at h
      · simp only [Sum.inl.injEq] at h
        subst h
        obtain ⟨y, hy, _⟩ := find_get hk
        exact ⟨y, hy⟩
      · cases h
theorem iv_guest (h : Iv t s K w) (lower : Tx → Tx) (name who : Tx) : Iv t (s + 1) K (guestA lower t w name who).1 := by
  have hm := h.mono (Nat.le_succ s) (Nat.le_refl K)
  unfold guestA
  split
  · exact hm
  · rename_i c hc
    split
    · exact hm
    · rename_i k hk
      obtain ⟨y, hy⟩ := mine_at hk
      have hk := h.w0.hc y (List.mem_of_getElem? hy)
      simp only [getD_of hy]
      split
      · exact hm
      · split
        · exact ⟨hm.w0.setH hy (fun h => { h with guests := y.guests.filter fun x => !(x == lower who) }) ⟨hk.1, Nat.le_trans (List.length_filter_le _ _) (Nat.le_succ_of_le hk.2)⟩, h.lt⟩
        · exact ⟨hm.w0.setH hy (fun h => { h with guests := insB ltTx y.guests (lower who) }) ⟨hk.1, by simp only [insB_len]; omega⟩, h.lt⟩
theorem iv_chest (h : Iv t s K w) (num : Tx → Int × Bool) (name q : Tx) (back : Bool) : Iv t s K (chestA num t w name q back).1 := by
  unfold chestA
  split
  · exact h
  · rename_i c hc
    obtain ⟨x, hx, _⟩ := on_at hc
    split
    · exact h
    · rename_i k hk
      obtain ⟨y, hy⟩ := mine_at hk
      split
      · exact h
      · rename_i n hn
        simp only [getD_of hy, getD_of hx]
        have k1 := h.ck hx
        have k2 := h.w0.hc y (List.mem_of_getElem? hy)
        have m1 := move_ok y.chest x.gold n k2.1 k1.go
        have m2 := move_ok x.gold y.chest n k1.go k2.1
        cases back
        · simp only [Bool.false_eq_true, if_false]
          split
          · exact h
          · have h2 := h.setC hx (fun z => { z with gold := (moveN x.gold y.chest n).1 }) rfl ⟨k1.nm, m2.1, k1.ba, k1.xp, k1.hp, k1.dn⟩
            exact ⟨h2.w0.setH (x := y) hy (fun z => { z with chest := (moveN x.gold y.chest n).2.1 }) ⟨m2.2, k2.2⟩, h.lt⟩
        · simp only [if_true]
          split
          · exact h
          · have h2 := h.setC hx (fun z => { z with gold := (moveN y.chest x.gold n).2.1 }) rfl ⟨k1.nm, m1.2, k1.ba, k1.xp, k1.hp, k1.dn⟩
            exact ⟨h2.w0.setH (x := y) hy (fun z => { z with chest := (moveN y.chest x.gold n).1 }) ⟨m1.1, k2.2⟩, h.lt⟩
end
end Go.Proofs.YtflmbhkjhfmeoaaGreat
