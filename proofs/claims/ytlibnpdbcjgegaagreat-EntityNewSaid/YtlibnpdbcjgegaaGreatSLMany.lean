/-
  Regions that draw their order, walked in as many orders as there are orders of what cannot be swapped.
-/
import Derived.Test.YtlibnpdbcjgegaaGreatSLRes
namespace Go.SL
set_option linter.unusedVariables false
section
variable {P : Program} {sr : List Tmp} {ops : Array Oper} {Q : Exit → Act → World → Prop} {l : List Oper}
/-- A pair at the front cannot stand both ways. -/
theorem no_both {s : List Nat} {i j : Nat} (hn : s.Nodup) (h1 : [i, j].Sublist s) (h2 : [j, i].Sublist s) : False := by
  induction s with
  | nil => cases h1
  | cons x s ih =>
    rw [List.nodup_cons] at hn
    cases h1 with
    | cons _ h1 =>
      cases h2 with
      | cons _ h2 => exact ih hn.2 h1 h2
      | cons_cons _ h2 => exact hn.1 (h1.subset (by simp))
    | cons_cons _ h1 =>
      cases h2 with
      | cons _ h2 => exact hn.1 (h2.subset (by simp))
      | cons_cons _ h2 => exact hn.1 (h1.subset (by simp))
theorem wpOps_of (hQ : Calm Q) (hno : ∀ (i : Nat) (y : Oper), ops[i]? = some y → noSel y = true) : ∀ (s π : List Nat) (St : List HProp) (a : Act) (w : World), π.Perm s → s.Nodup → (∀ i ∈ s, i < ops.size) →
    (∀ (i j : Nat) (x y : Oper), [i, j].Sublist π → [j, i].Sublist s → ops[i]? = some x → ops[j]? = some y → swapB P sr ops x y = true) → wpK P sr ops Q St (pick ops π) a w → wpOps P ops Q s a w
  | [], π, St, a, w, hp, _, _, _, k => by
    have : π = [] := hp.eq_nil
    subst this
    simpa [wpOps, pick, wpK] using k
  | i :: s, π, St, a, w, hp, hn, hb, H, k => by
    have hi : i ∈ π := hp.symm.subset List.mem_cons_self
    obtain ⟨π1, π2, rfl⟩ := List.append_of_mem hi
    have hil := hb i List.mem_cons_self
    have hy : ops[i]? = some ops[i] := Array.getElem?_eq_getElem hil
    have hpick : pick ops (π1 ++ i :: π2) = pick ops π1 ++ ops[i] :: pick ops π2 := by
      simp only [pick, List.filterMap_append, List.filterMap_cons, hy]
    rw [hpick] at k
    have hperm : (π1 ++ π2).Perm s := (List.perm_middle.symm.trans hp).cons_inv
    have hnd : (π1 ++ i :: π2).Nodup := hp.symm.nodup hn
    rw [List.nodup_cons] at hn
    have k2 := front hQ (hno i _ hy) (pick ops π2) (pick ops π1) St a w (fun x hx => by
      obtain ⟨j, hj, hx⟩ := List.mem_filterMap.1 hx
      refine ⟨hno j x hx, H j i x _ ?_ ?_ hx hy⟩
      · have h1 : [j].Sublist π1 := List.singleton_sublist.2 hj
        have h2 : [i].Sublist (i :: π2) := List.singleton_sublist.2 List.mem_cons_self
        exact h1.append h2
      · refine List.Sublist.cons_cons _ (List.singleton_sublist.2 (hperm.subset (List.mem_append_left _ hj)))) k
    have hap : pick ops π1 ++ pick ops π2 = pick ops (π1 ++ π2) := by simp [pick]
    rw [hap] at k2
    have step : ∀ St a w, wpK P sr ops Q St (pick ops (π1 ++ π2)) a w → wpOps P ops Q s a w := fun St a w k => by
      refine wpOps_of hQ hno s (π1 ++ π2) St a w hperm hn.2 (fun j hj => hb j (List.mem_cons_of_mem _ hj)) (fun p q x y h1 h2 hx hy' => H p q x y ?_ (h2.cons _) hx hy') k
      exact h1.trans ((List.Sublist.refl π1).append (List.sublist_cons_self i π2))
    rw [wpOps_cons]
    unfold wpOp
    simp only [hy]
    cases hw : Region.wanted ops[i] (yielded ops a.tmps) with
    | true => simp only [if_true]; exact .inl (Oper.wp_mono (fun a w ⟨St, h⟩ => step St a w h) (wpK_wp hw k2))
    | false => simp only [Bool.false_eq_true, if_false]; exact step _ _ _ (wpK_off hw k2)
def backB (ops : Array Oper) (T : Array Nat) : Bool := (List.range ops.size).all fun j => !(T.getD j 0 >>> ops.size != 0) && (List.range ops.size).all fun i => Nat.blt i j || !(T.getD j 0).testBit i
def baseB (ops : Array Oper) : Bool := ops.toList.all noSel && tableB ops (Region.before ops) && backB ops (Region.before ops)
theorem base_noSel (h : baseB ops = true) {i : Nat} {y : Oper} (hy : ops[i]? = some y) : noSel y = true := by
  simp only [baseB, Bool.and_eq_true, List.all_eq_true] at h
  exact h.1.1 y (by simpa using Array.mem_of_getElem? hy)
theorem base_back (h : baseB ops = true) {i : Nat} {y : Oper} (hy : ops[i]? = some y) : ∀ e ∈ y.after, Region.binds .any e = true → e.on < i := by
  simp only [baseB, tableB, Bool.and_eq_true, List.all_eq_true] at h
  have hi : i < ops.size := (Array.getElem?_eq_some_iff.1 hy).1
  have h2 := h.1.2 i (List.mem_range.2 hi)
  rw [hy] at h2
  simp only [Bool.and_eq_true, List.all_eq_true, Bool.or_eq_true, Bool.not_eq_true', Nat.blt_eq] at h2
  exact fun e he hb => (h2.1 e (by simpa using he)).resolve_left (by simp [hb])
theorem base_table (h : baseB ops = true) {i : Nat} {y : Oper} (hy : ops[i]? = some y) {j : Nat} (hj : j < i) (hT : ((Region.before ops).getD i 0).testBit j = true) :
    ∃ e ∈ y.after, Region.binds .any e = true ∧ (e.on = j ∨ (j < e.on ∧ ((Region.before ops).getD e.on 0).testBit j = true)) := by
  simp only [baseB, tableB, Bool.and_eq_true, List.all_eq_true] at h
  have hi : i < ops.size := (Array.getElem?_eq_some_iff.1 hy).1
  have h2 := h.1.2 i (List.mem_range.2 hi)
  rw [hy] at h2
  simp only [Bool.and_eq_true, List.all_eq_true, Bool.or_eq_true, Bool.not_eq_true', List.any_eq_true, beq_iff_eq, Nat.blt_eq] at h2
  rcases h2.2 j (List.mem_range.2 hj) with h3 | ⟨e, he, hb, hd⟩
  · rw [hT] at h3; cases h3
  · exact ⟨e, by simpa using he, hb, hd⟩
theorem base_anc (h : baseB ops = true) {listed : Array Bool}
    (hdown : ∀ x ox, ops[x]? = some ox → listed.getD x false = true → ∀ e ∈ ox.after, Region.binds .any e = true → listed.getD e.on false = true) :
    ∀ (i : Nat) (y : Oper), ops[i]? = some y → (∀ e ∈ y.after, Region.binds .any e = true → listed.getD e.on false = true) →
      ∀ j, j < i → ((Region.before ops).getD i 0).testBit j = true → listed.getD j false = true := by
  intro i
  induction i using Nat.strongRecOn with
  | _ i ih =>
    intro y hy hdeps j hj hT
    obtain ⟨e, he, hb, hd⟩ := base_table h hy hj hT
    have hl := hdeps e he hb
    rcases hd with rfl | ⟨hje, hd⟩
    · exact hl
    · have hlt := base_back h hy e he hb
      have hi : i < ops.size := (Array.getElem?_eq_some_iff.1 hy).1
      have hsome : ops[e.on]? = some (ops[e.on]'(by omega)) := Array.getElem?_eq_getElem (by omega)
      exact ih e.on hlt _ hsome (hdown e.on _ hsome hl) j hje hd
theorem base_lt (h : baseB ops = true) {i j : Nat} (hi : i < ops.size) (hj : j < ops.size) (hT : ((Region.before ops).getD j 0).testBit i = true) : i < j := by
  simp only [baseB, backB, Bool.and_eq_true, List.all_eq_true] at h
  have h2 := (h.2 j (List.mem_range.2 hj)).2 i (List.mem_range.2 hi)
  rw [hT] at h2
  simpa [Nat.blt_eq] using h2
/-- What the drawn orders have in common. -/
theorem lin_spec (h : baseB ops = true) : ∀ (fuel t : Nat) (listed : Array Bool) (rem : List Nat), listed.size = ops.size → rem.Nodup → (∀ i, i ∈ rem ↔ i < ops.size ∧ listed.getD i true = false) → rem.length ≤ fuel →
    (∀ x ox, ops[x]? = some ox → listed.getD x false = true → ∀ e ∈ ox.after, Region.binds .any e = true → listed.getD e.on false = true) →
    (Region.linearise.go .any ops fuel t listed []).Perm rem ∧ (Region.linearise.go .any ops fuel t listed []).Pairwise fun i j => ((Region.before ops).getD i 0).testBit j = false
  | 0, t, listed, rem, _, _, _, hl, _ => by
    have : rem = [] := List.eq_nil_of_length_eq_zero (by omega)
    subst this
    exact ⟨.refl _, .nil⟩
  | fuel + 1, t, listed, rem, hsz, hnd, hmem, hl, hdown => by
    simp only [Region.linearise.go]
    change (match (Region.ready .any ops listed)[t % (Region.ready .any ops listed).length]? with
      | some i => Region.linearise.go .any ops fuel (t / (Region.ready .any ops listed).length) (listed.setIfInBounds i true) [i]
      | none => [].reverse).Perm rem ∧ (match (Region.ready .any ops listed)[t % (Region.ready .any ops listed).length]? with
      | some i => Region.linearise.go .any ops fuel (t / (Region.ready .any ops listed).length) (listed.setIfInBounds i true) [i]
      | none => [].reverse).Pairwise _
    cases hi : (Region.ready .any ops listed)[t % (Region.ready .any ops listed).length]? with
    | none =>
      have hnil : Region.ready .any ops listed = [] := by
        cases hr : Region.ready .any ops listed with
        | nil => rfl
        | cons x xs =>
          rw [hr] at hi
          have hlt : t % (x :: xs).length < (x :: xs).length := Nat.mod_lt _ (by simp)
          simp at hi
          simp at hlt
          omega
      have hrem : rem = [] := by
        -- the least of what is left is ready
        cases hrm : rem with
        | nil => rfl
        | cons x xs =>
          exfalso
          have key : ∀ i, i ∈ rem → False := by
            intro i
            induction i using Nat.strongRecOn with
            | _ i ih =>
              intro hi
              obtain ⟨hlt, hli⟩ := (hmem i).1 hi
              have hsome : ops[i]? = some ops[i] := Array.getElem?_eq_getElem hlt
              have : i ∈ Region.ready .any ops listed := by
                rw [mem_ready]
                refine ⟨hli, _, hsome, fun e he hb => ?_⟩
                have hb' := base_back h hsome e he hb
                have hne : e.on ∉ rem := fun hm => ih e.on hb' hm
                rw [hmem] at hne
                have h5 : ¬ listed.getD e.on true = false := fun h => hne ⟨by omega, h⟩
                rw [getD_bit (by omega) false true]
                simpa using h5
              rw [hnil] at this; cases this
          exact key x (hrm ▸ List.mem_cons_self)
      subst hrem
      exact ⟨.refl _, .nil⟩
    | some i =>
      simp only []
      rw [linearise_go_acc, List.reverse_singleton, List.singleton_append]
      have hir := List.mem_of_getElem? hi
      obtain ⟨h0, y, hy, hdeps⟩ := mem_ready.1 hir
      have hisz : i < ops.size := (Array.getElem?_eq_some_iff.1 hy).1
      have him : i ∈ rem := (hmem i).2 ⟨hisz, h0⟩
      have hget : ∀ j d, (listed.setIfInBounds i true).getD j d = if j = i then true else listed.getD j d := fun j d => by
        split
        · subst j; have hli : i < listed.size := by omega
          simp [hli]
        · rename_i hne; exact getD_set_ne d (fun e => hne e.symm)
      have ih := lin_spec h fuel (t / (Region.ready .any ops listed).length) (listed.setIfInBounds i true) (rem.erase i) (by simp [hsz]) (hnd.erase i) (fun j => by
        rw [hget, hnd.mem_erase_iff, hmem]
        split
        · rename_i e; subst j; simp
        · rename_i hne; simp [hne]) (by rw [List.length_erase_of_mem him]; omega) (fun x ox hx hlx e he hb => by
        rw [hget] at hlx ⊢
        split
        · rfl
        · split at hlx
          · rename_i e2; subst x
            rw [hy] at hx; cases hx
            exact hdeps e he hb
          · exact hdown x ox hx hlx e he hb)
      refine ⟨(ih.1.cons i).trans (List.perm_cons_erase him).symm, List.pairwise_cons.2 ⟨fun j hj => ?_, ih.2⟩⟩
      have hjr := ih.1.subset hj
      rw [hnd.mem_erase_iff] at hjr
      obtain ⟨hjlt, hjl⟩ := (hmem j).1 hjr.2
      cases hT : ((Region.before ops).getD i 0).testBit j with
      | false => rfl
      | true =>
        have hlt := base_lt h hjlt hisz hT
        have := base_anc h hdown i y hy hdeps j hlt hT
        rw [getD_bit (by omega) false true, hjl] at this
        cases this
/-- Among these lists is each order in which nothing stands ahead of what it hangs on. -/
def coverB (T : Array Nat) : Nat → List Nat → List (List Nat) → Bool
  | _, [], es => es.any List.isEmpty
  | 0, _ :: _, _ => false
  | fuel + 1, rem, es => rem.all fun i => (rem.any fun j => j != i && (T.getD i 0).testBit j) || coverB T fuel (rem.erase i) (es.filterMap fun e => match e with | x :: r => if x = i then some r else none | [] => none)
theorem coverB_sound {T : Array Nat} : ∀ (fuel : Nat) (rem : List Nat) (es : List (List Nat)) (e : List Nat), coverB T fuel rem es = true → e.Perm rem → e.Nodup → e.Pairwise (fun i j => (T.getD i 0).testBit j = false) → e ∈ es
  | _, [], es, e, h, hp, _, _ => by
    have : e = [] := hp.eq_nil
    subst this
    simp only [coverB, List.any_eq_true, List.isEmpty_iff] at h
    obtain ⟨x, hx, rfl⟩ := h
    exact hx
  | 0, x :: rem, es, e, h, _, _, _ => by cases h
  | fuel + 1, x :: rem, es, e, h, hp, hn, hw => by
    cases e with
    | nil => exact absurd hp.symm.eq_nil (by simp)
    | cons i e =>
      simp only [coverB, List.all_eq_true, Bool.or_eq_true] at h
      have him := hp.subset List.mem_cons_self
      rw [List.pairwise_cons] at hw
      rw [List.nodup_cons] at hn
      rcases h i him with h1 | h1
      · exfalso
        simp only [List.any_eq_true, Bool.and_eq_true, bne_iff_ne] at h1
        obtain ⟨j, hj, hne, hT⟩ := h1
        have hje : j ∈ e := by
          rcases List.mem_cons.1 (hp.symm.subset hj) with h2 | h2
          · exact absurd h2 hne
          · exact h2
        rw [hw.1 j hje] at hT; cases hT
      · have hpe : e.Perm ((x :: rem).erase i) := (hp.trans (List.perm_cons_erase him)).cons_inv
        have := coverB_sound fuel _ _ e h1 hpe hn.2 hw.2
        obtain ⟨f, hf, hfe⟩ := List.mem_filterMap.1 this
        cases f with
        | nil => cases hfe
        | cons y f =>
          simp only at hfe
          split at hfe
          · rename_i hy; subst hy; cases hfe; exact hf
          · cases hfe
def freeB (P : Program) (sr : List Tmp) (ops : Array Oper) (T : Array Nat) (E : List Nat) (i j : Nat) : Bool :=
  i != j && ((T.getD j 0).testBit i || (E.contains i && E.contains j) || match ops[i]?, ops[j]? with | some x, some y => swapB P sr ops x y | _, _ => true)
def manyB (P : Program) (sr : List Tmp) (ops : Array Oper) (E : List Nat) (πs : List (List Nat)) : Bool :=
  baseB ops && pairB (fun i j => i != j) E && E.all (fun i => Nat.blt i ops.size) && coverB (Region.before ops) E.length E (πs.map fun π => π.filter E.contains) &&
    πs.all fun π => (List.range ops.size).all (fun i => π.contains i) && π.all (fun i => Nat.blt i ops.size) && pairB (freeB P sr ops (Region.before ops) E) π
def AllP (p : List Nat → Prop) : List (List Nat) → Prop
  | [] => True
  | π :: r => p π ∧ AllP p r
theorem AllP.mem {p : List Nat → Prop} : ∀ {πs : List (List Nat)} {π : List Nat}, AllP p πs → π ∈ πs → p π
  | [], _, _, h => by cases h
  | π :: r, _, h, hm => by
    rcases List.mem_cons.1 hm with rfl | hm
    · exact h.1
    · exact AllP.mem h.2 hm
theorem pair_sub {R : Nat → Nat → Prop} {l : List Nat} (h : l.Pairwise R) {i j : Nat} (hs : [i, j].Sublist l) : R i j := by
  have := h.sublist hs
  simpa using this
theorem wp_region_many {E : List Nat} {πs : List (List Nat)} {id : Nat} {a : Act} {w : World} (hm : P.follows .mixedOrders = true) (hQ : Calm Q) (hc : manyB P sr ops E πs = true)
    (h : ∀ π ∈ πs, wpK P sr ops Q [] (pick ops π) a { w with drawn := w.drawn + 1 }) : (Code.region id ops true).wp P Q a w := by
  refine wp_region_draw fun t => ?_
  simp only [Region.schedule, hm, Bool.true_or, if_true]
  simp only [manyB, Bool.and_eq_true, List.all_eq_true] at hc
  obtain ⟨⟨⟨⟨hb, hE⟩, hEl⟩, hcov⟩, hπ⟩ := hc
  have hEnd : E.Nodup := (pairB_spec hE).imp fun h => by simpa using h
  obtain ⟨hperm, hpw⟩ := lin_spec hb ops.size t (Array.replicate ops.size false) (List.range ops.size) (by simp) List.nodup_range (fun i => by
    rw [List.mem_range]
    refine ⟨fun h => ⟨h, by simp [h]⟩, fun h => h.1⟩) (by simp) (fun x ox hx hl => by
    have hi := (Array.getElem?_eq_some_iff.1 hx).1
    simp [hi] at hl)
  show wpOps P ops Q (Region.linearise.go .any ops ops.size t (Array.replicate ops.size false) []) a _
  generalize Region.linearise.go .any ops ops.size t (Array.replicate ops.size false) [] = s at hperm hpw ⊢
  have hsn : s.Nodup := hperm.symm.nodup List.nodup_range
  have hsl : ∀ i ∈ s, i < ops.size := fun i hi => List.mem_range.1 (hperm.subset hi)
  have hes : s.filter E.contains ∈ πs.map fun π => π.filter E.contains := by
    refine coverB_sound _ _ _ _ hcov ?_ (hsn.filter _) (hpw.filter _)
    refine (List.perm_ext_iff_of_nodup (hsn.filter _) hEnd).2 fun i => ?_
    rw [List.mem_filter]
    refine ⟨fun h => List.contains_iff_mem.1 h.2, fun h => ⟨hperm.symm.subset (List.mem_range.2 ?_), List.contains_iff_mem.2 h⟩⟩
    simpa [Nat.blt_eq] using hEl i h
  obtain ⟨π, hπm, hfe⟩ := List.mem_map.1 hes
  have hp3 := hπ π hπm
  have hpp := pairB_spec hp3.2
  have hπn : π.Nodup := hpp.imp fun h => by simp only [freeB, Bool.and_eq_true, bne_iff_ne] at h; exact h.1
  have hπs : π.Perm s := by
    refine ((List.perm_ext_iff_of_nodup hπn List.nodup_range).2 fun i => ⟨fun h => ?_, fun h => List.contains_iff_mem.1 (hp3.1.1 i h)⟩).trans hperm.symm
    have := hp3.1.2 i h
    simpa [Nat.blt_eq] using this
  refine wpOps_of hQ (fun i y hy => base_noSel hb hy) s π [] a _ hπs hsn hsl (fun i j x y h1 h2 hx hy => ?_) (h π hπm)
  have hf := pair_sub hpp h1
  simp only [freeB, Bool.and_eq_true, Bool.or_eq_true, hx, hy] at hf
  rcases hf.2 with (hT | hEE) | hsw
  · have := pair_sub hpw h2
    rw [hT] at this; cases this
  · exfalso
    have h3 : [i, j].Sublist (π.filter E.contains) := by
      have := h1.filter E.contains
      simpa [List.filter_cons, List.contains_iff_mem.1 hEE.1, List.contains_iff_mem.1 hEE.2] using this
    rw [hfe] at h3
    exact no_both hsn (h3.trans List.filter_sublist) h2
  · exact hsw
end
/-- The orders in which one walks a region that draws its order: the loads that stay what they are, what cannot be swapped, the orders. -/
class Plans (id : Nat) (sr : outParam (List Tmp)) (E : outParam (List Nat)) (πs : outParam (List (List Nat))) : Prop where
  mk ::
theorem C.region_many {P : Program} {n : Nat} {o : Outer} {Q : Post} {xs : Env} {hs : List HProp} {id : Nat} {sr : List Tmp} {E : List Nat} {πs : List (List Nat)} {l : List Oper} [Plans id sr E πs] (hm : P.follows .mixedOrders = true) (hc : manyB P sr l.toArray E πs = true) (hQ : Calm Q)
    (h : AllP (fun π => W P n o sr l.toArray Q [] (pick l.toArray π) xs hs) πs) : C P n o Q (.region id l.toArray true) xs hs :=
  ⟨fun a w ha hw => wp_region_many hm hQ hc (fun π hπ => (h.mem hπ).run a _ ha (hw.drawn _))⟩
end Go.SL
