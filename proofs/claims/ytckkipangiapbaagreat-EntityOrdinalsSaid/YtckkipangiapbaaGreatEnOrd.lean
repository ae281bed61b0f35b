/-
  EntityOrdinals: N.name is the N-th of that name, in the order of numbers.
-/
import Derived.Test.YtckkipangiapbaaGreatEnBeg
import Derived.Test.YtckkipangiapbaaGreatEnMake
import Derived.Test.YtckkipangiapbaaGreatEnFnd
namespace Go.Proofs.YtckkipangiapbaaGreat
open Go.SL
set_option linter.unusedVariables false
set_option linter.unusedSimpArgs false
set_option maxHeartbeats 8000000
set_option maxRecDepth 20000
/-- The kind that a number stands for. -/
def knd (x : Int) : Int := 1 + (x.tmod 5 + 5) % 5
theorem tmod5 (x : Int) : -5 < x.tmod 5 ∧ x.tmod 5 < 5 := by
  by_cases h : 0 ≤ x
  · rw [Int.tmod_eq_emod_of_nonneg h]; omega
  · have h2 : x.tmod 5 = -((-x).tmod 5) := by rw [Int.neg_tmod, Int.neg_neg]
    rw [h2, Int.tmod_eq_emod_of_nonneg (by omega)]; omega
theorem knd_range (x : Int) : 1 ≤ knd x ∧ knd x ≤ 5 := by have := tmod5 x; unfold knd; omega
def ordT (ps : List Int) : List Thg := ps.zipIdx.map fun p => (⟨3 + (p.2 : Int), knd p.1, 1, 1, []⟩ : Thg)
def ordW (ps : List Int) : Wld := { newW baseT with things := ordT ps, next := 3 + (ps.length : Int) }
theorem ordT_len (ps : List Int) : (ordT ps).length = ps.length := by simp [ordT]
theorem ord_step (ps : List Int) (x : Int) (h : ps.length < 200) : makeIf (ordW ps) (knd x) 1 1 [] = ordW (ps ++ [x]) := by
  have h1 : canMake (ordW ps) = true := by unfold canMake; exact decide_eq_true (by show (ordT ps).length < 200; rw [ordT_len]; exact h)
  unfold makeIf
  rw [h1, if_pos rfl]
  unfold makeW ordW
  simp only [ordT, List.zipIdx_append, List.map_append, List.zipIdx_cons, List.zipIdx_nil, List.map_cons, List.map_nil, List.length_append, List.length_cons, List.length_nil, Nat.zero_add]
  congr 1
theorem ord_get {ps : List Int} {k : Nat} {x : Int} (h : ps[k]? = some x) : (ordW ps).things[k]? = some ⟨3 + (k : Int), knd x, 1, 1, []⟩ := by
  show (ordT ps)[k]? = _
  unfold ordT
  rw [List.getElem?_map, List.getElem?_zipIdx, h]
  simp
/-- The places of a kind. -/
def wantL (ps : List Int) (K : Int) : List Nat := pos (fun x => knd x == K) ps
def nameK (K : Int) : Tx := (baseT.protos.getD (K - 1).toNat default).name
theorem kind_name : ∀ a ∈ [(1 : Int), 2, 3, 4, 5], ∀ b ∈ [(1 : Int), 2, 3, 4, 5], (match protoI baseT a with
    | none => false
    | some p => (baseT.protos.getD p default).name == nameK b) = (a == b) := by decide
theorem five {x : Int} (h : 1 ≤ x ∧ x ≤ 5) : x ∈ [(1 : Int), 2, 3, 4, 5] := by
  have : x = 1 ∨ x = 2 ∨ x = 3 ∨ x = 4 ∨ x = 5 := by omega
  rcases this with rfl | rfl | rfl | rfl | rfl <;> decide
theorem isKind_ord (ps : List Int) (K : Int) (hK : 1 ≤ K ∧ K ≤ 5) {k : Nat} {x : Int} (hx : ps[k]? = some x) : isKind baseT (ordW ps) (nameK K) k = (knd x == K) := by
  unfold isKind
  rw [ord_get hx]
  exact kind_name (knd x) (five (knd_range x)) K (five hK)
theorem filter_want (ps : List Int) (K : Int) (hK : 1 ≤ K ∧ K ≤ 5) : (List.range ps.length).filter (isKind baseT (ordW ps) (nameK K)) = wantL ps K := by
  have key : ∀ k, k ≤ ps.length → (List.range k).filter (isKind baseT (ordW ps) (nameK K)) = pos (fun x => knd x == K) (ps.take k) := by
    intro k
    induction k with
    | zero => intro _; simp [pos]
    | succ k ih =>
      intro hk
      have hx : ps[k]? = some ps[k] := List.getElem?_eq_getElem hk
      rw [List.range_succ, List.filter_append, ih (by omega), pos_snoc hx]
      congr 1
      rw [List.filter_cons, isKind_ord ps K hK hx, List.filter_nil]
  have := key ps.length (Nat.le_refl _)
  rwa [List.take_length] at this
def digs (n : Int) : Tx := if 10 ≤ n then [UInt8.ofNat (48 + n / 10).toNat, UInt8.ofNat (48 + n % 10).toNat] else [UInt8.ofNat (48 + n % 10).toNat]
theorem digs_all : ∀ m : Fin 41, 1 ≤ m.val → numM (digs (m.val : Int)) = ((m.val : Int), true) ∧ (digs (m.val : Int)).findIdx? (· == 46) = none := by decide
theorem digs_num (n : Int) (h1 : 1 ≤ n) (h2 : n ≤ 40) : numM (digs n) = (n, true) ∧ (digs n).findIdx? (· == 46) = none := by
  obtain ⟨N, rfl⟩ := Int.eq_ofNat_of_zero_le (by omega : 0 ≤ n)
  exact digs_all ⟨N, by omega⟩ (by show 1 ≤ N; omega)
theorem ord_word (n : Int) (h1 : 1 ≤ n) (h2 : n ≤ 40) (nm : Tx) : ordN numM (digs n ++ [46] ++ nm) = (n, nm) := by
  obtain ⟨h3, h4⟩ := digs_num n h1 h2
  have h5 : (digs n ++ [46] ++ nm).findIdx? (· == 46) = some (digs n).length := by
    rw [List.append_assoc, List.findIdx?_append, h4]; simp [List.findIdx?_cons]
  unfold ordN
  rw [h5]
  simp only
  rw [List.append_assoc, List.take_left, h3, if_neg (by simp; omega)]
  simp
theorem find_ord (ps : List Int) (K n : Int) (hK : 1 ≤ K ∧ K ≤ 5) (h1 : 1 ≤ n) (h2 : n ≤ 40) : findA numM baseT (ordW ps) (List.range ps.length) (digs n ++ [46] ++ nameK K) = (wantL ps K)[(n - 1).toNat]? := by
  unfold findA
  rw [ord_word n h1 h2]
  simp only
  rw [nthOf, if_neg (by omega), filter_want ps K hK]
theorem EntityOrdinals_spec (A0 : Option Addr) (c0 : Nat) (ps0 : List Int) (hl0 : ps0.length ≤ 9223372036854775807) (B : HProp) (hB : Reads B E64 A0 ps0) (n K0 : Int) (hn : -9223372036854775808 ≤ n ∧ n ≤ 9223372036854775807) (hk : -9223372036854775808 ≤ K0 ∧ K0 ≤ 9223372036854775807) (hps : ∀ x ∈ ps0, -9223372036854775808 ≤ x ∧ x ≤ 9223372036854775807) :
    Trip Tryz.prog 5 [.slice A0 ps0.length c0, .int .i64 n, .int .i64 K0] [B] (fun v Ps => v = .bool true ∧ Ps = [B]) := by
  refine Trip.of (m := 119) Tryz.func5 rfl rfl rfl ?_
  intro o Rs
  simp only [List.cons_append, List.nil_append, enumFrom]
  have F1 := begun16_spec
  have F2 := Base_spec
  refine go ?_
  refine ⟨?_, by simp⟩ <;> intros
  rename_i e mt
  refine wtb (d := e) (m := mt) (t := baseT) fun lt => ?_
  have F3 := NewBase_spec e mt lt
  refine go ?_
  refine ⟨?_, by simp⟩ <;> intros
  rename_i d m e2 mt2
  have hkr := tmod5 K0
  refine W.rem (z := K0.tmod 5) rfl rfl (by omega) rfl rfl ?_
  have hKr := knd_range K0
  have hKe : 1 + (K0.tmod 5 + 5) % 5 = knd K0 := rfl
  generalize K0.tmod 5 = r at *
  refine go ?_
  refine ⟨?_, by simp⟩ <;> intros
  have ht0 : ∀ i, (ps0.take i).length ≤ i := fun i => by rw [List.length_take]; omega
  refine loop (σ := Nat × Lay × PA × PA) (fun s => s.1 ≤ ps0.length ∧ s.1 ≤ 40) (fun s => [(0, .slice A0 ps0.length c0), (1, .int .i64 n), (2, .int .i64 (knd K0)), (7, .bool true), (8, .pointer (some ⟨d, 0, none⟩)), (9, .pointer (some ⟨e2, 0, none⟩)), (10, .slice s.2.2.1.1 (ints (List.range s.1)).length s.2.2.1.2), (11, .slice s.2.2.2.1 (ints (wantL (ps0.take s.1) (knd K0))).length s.2.2.2.2), (12, .int .i64 (s.1 : Int))])
    (fun s => sl E64 3 s.2.2.1.1 s.2.2.1.2 (ints (List.range s.1)) :: sl E64 3 s.2.2.2.1 s.2.2.2.2 (ints (wantL (ps0.take s.1) (knd K0))) :: wl d s.2.1 (ordW (ps0.take s.1)) :: tb e2 mt2 baseT :: B :: Rs) (fun s => ps0.length - s.1) (0, m, (none, 0), (none, 0)) ⟨Nat.zero_le _, Nat.zero_le _⟩ ?_
    ⟨rfl, rfl, congrArg (fun z => some (Value.int .i64 z)) hKe, rfl, rfl, rfl, rfl, rfl, rfl, trivial⟩
  rintro ⟨i, m, ⟨A, c⟩, ⟨A2, c2⟩⟩ ⟨hi, hi40⟩
  simp only at hi hi40 ⊢
  have hrl : (ints (List.range i)).length = i := by rw [ints_len, List.length_range]
  have hwl : (ints (wantL (ps0.take i) (knd K0))).length ≤ i := by rw [ints_len]; exact Nat.le_trans (pos_len _ _) (ht0 i)
  by_cases hi2 : i < ps0.length ∧ i < 40
  · obtain ⟨hi3, hi4⟩ := hi2
    obtain ⟨x, hx⟩ : ∃ x, ps0[i]? = some x := ⟨_, List.getElem?_eq_getElem hi3⟩
    have hxb := hps x (List.mem_of_getElem? hx)
    refine go ?_
    refine ⟨?_, by simp⟩ <;> intros
    have hxr := tmod5 x
    have hye := pos_yes (p := fun y => knd y == knd K0) hx
    have hno := pos_no (p := fun y => knd y == knd K0) hx
    have hrs : ints (List.range (i + 1)) = ints (List.range i) ++ [(i : Int)] := by rw [List.range_succ]; simp [ints]
    have hxe : 1 + (x.tmod 5 + 5) % 5 = knd x := rfl
    refine W.rem (z := x.tmod 5) rfl rfl (by omega) rfl rfl ?_
    have hst := ord_step (ps0.take i) x (by have := ht0 i; omega)
    have htk : ps0.take (i + 1) = ps0.take i ++ [x] := by rw [List.take_add_one, hx]; rfl
    rw [← htk] at hst
    have hcm : canMake (ordW (ps0.take i)) = true := by unfold canMake; exact decide_eq_true (by show (ordT (ps0.take i)).length < 200; rw [ordT_len]; have := ht0 i; omega)
    have F4 := MakeP_spec d m (ordW (ps0.take i)) (by show (ordT _).length ≤ _; rw [ordT_len]; have := ht0 i; omega) (by show 3 + ((ps0.take i).length : Int) ≤ _; have := ht0 i; omega) (by show 0 ≤ 3 + ((ps0.take i).length : Int); omega) (1 + (x.tmod 5 + 5) % 5) ⟨0, 0, 1, 1, []⟩
    rw [hcm] at F4
    simp only [hxe, hst] at F4
    rw [← hxe] at F4
    unfold wantL at *
    generalize ints (pos (fun y => knd y == knd K0) (ps0.take i)) = Lw at *
    generalize x.tmod 5 = r2 at *
    refine go ?_
    (repeat' (first | exact trivial | apply And.intro | intro _))
    all_goals first
      | (exfalso; omega)
      | (rename_i m' b A' c' hq b2 A3 c3
         have hye' := hye (by simp only [beq_iff_eq]; omega)
         exact rnd (i + 1, m', (A', c'), (A3, c3)) ⟨hi3, hi4⟩ (by simp only; omega) (hx := by simp only [hrs, hye']; (repeat (first | exact trivial | refine And.intro rfl ?_ | fail))) (hh := by simp only [hrs, hye']; (focus ((repeat (first | exact Ent.done | with_reducible exact Ent.same | (apply Ent.take; (first | (focus (with_reducible iterate 40 first | done | exact .here | apply Find.there); done) | (focus (iterate 40 first | done | exact .here | apply Find.there); done))) | (apply Ent.emp (sl_emp _ _)) | apply Ent.drop)); first | done | fail))))
      | (rename_i m' b A' c' hq
         have hno' := hno (by simp only [beq_eq_false_iff_ne]; omega)
         exact rnd (i + 1, m', (A', c'), (A2, c2)) ⟨hi3, hi4⟩ (by simp only; omega) (hx := by simp only [hrs, hno']; (repeat (first | exact trivial | refine And.intro rfl ?_ | fail))) (hh := by simp only [hrs, hno']; (focus ((repeat (first | exact Ent.done | with_reducible exact Ent.same | (apply Ent.take; (first | (focus (with_reducible iterate 40 first | done | exact .here | apply Find.there); done) | (focus (iterate 40 first | done | exact .here | apply Find.there); done))) | (apply Ent.emp (sl_emp _ _)) | apply Ent.drop)); first | done | fail))))
  have hpl : (ps0.take i).length = i := by rw [List.length_take]; omega
  generalize hps1 : ps0.take i = ps at *
  have hwr : wantL ps (knd K0) = wantL ps (knd K0) := rfl
  obtain ⟨q, hq⟩ : ∃ q, baseT.protos[(knd K0 - 1).toNat]? = some q := ⟨_, List.getElem?_eq_getElem (by show _ < 5; omega)⟩
  have hqn : nameK (knd K0) = q.name := by unfold nameK; rw [getD_of hq]
  have hq5 : baseT.protos.length = 5 := rfl
  have hql : q.name.length ≤ 100 := (show ∀ p ∈ baseT.protos, p.name.length ≤ 100 by decide) q (List.mem_of_getElem? hq)
  have hfo := fun h1 h2 => find_ord ps (knd K0) n hKr h1 h2
  rw [hpl, hqn] at hfo
  have hil : (ints (wantL ps (knd K0))).length = (wantL ps (knd K0)).length := ints_len _
  have hig : ∀ j, (wantL ps (knd K0))[(n - 1).toNat]? = some j → (ints (wantL ps (knd K0)))[(n - 1).toNat]? = some (j : Int) := fun j h => ints_get h
  have hwl2 : (ordW ps).things.length ≤ 100000 := by show (ordT ps).length ≤ _; rw [ordT_len]; omega
  refine go ?_
  (repeat' (first | exact trivial | apply And.intro | intro _))
  all_goals first
    | (exfalso; omega)
    | skip
  all_goals
    have hfo2 := hfo (by omega) (by omega)
    have hno : (wantL ps (knd K0))[(n - 1).toNat]? = none ↔ ((wantL ps (knd K0)).length : Int) < n := by rw [List.getElem?_eq_none_iff]; omega
    rcases Decidable.em (10 ≤ n) with h10 | h10
    · first
        | (exfalso; omega)
        | (have hdg : digs n = [UInt8.ofNat (48 + n / 10).toNat] ++ [UInt8.ofNat (48 + n % 10).toNat] := by unfold digs; rw [if_pos h10]; rfl
           rw [hdg] at hfo2
           have F5 := FindP_spec d e2 m (ordW ps) mt2 baseT hwl2 (by decide) (tb e2 mt2 baseT) (List.range i) (by rw [List.length_range]; omega) A c (wl d m (ordW ps)) ([UInt8.ofNat (48 + n / 10).toNat] ++ [UInt8.ofNat (48 + n % 10).toNat] ++ [46] ++ q.name) (by simp; omega) (sl E64 3 A c (ints (List.range i))) reads_sl
           rw [hfo2] at F5
           generalize wantL ps (knd K0) = L at *
           cases hL : L[(n - 1).toNat]? with
           | none =>
             have hgt := hno.1 hL
             rw [hL] at F5
             simp only [iv] at F5
             clear hL hig hno hfo hfo2 hq hqn hdg hKe hps1 hpl hwl hrl hql
             refine go ?_
             (repeat' (first | exact trivial | apply And.intro | intro _))
             all_goals first
               | (exfalso; omega)
               | rfl
               | (simp; done)
           | some j =>
             have hgt : ¬ (L.length : Int) < n := fun h => by rw [hno.2 h] at hL; cases hL
             have hj := hig j hL
             rw [hL] at F5
             simp only [iv] at F5
             clear hL hig hno hfo hfo2 hq hqn hdg hKe hps1 hpl hwl hrl hql
             refine go ?_
             (repeat' (first | exact trivial | apply And.intro | intro _))
             all_goals first
               | (exfalso; omega)
               | rfl
               | (simp; done)
           )
    · first
        | (exfalso; omega)
        | (have hdg : digs n = [UInt8.ofNat (48 + n % 10).toNat] := by unfold digs; rw [if_neg h10]
           rw [hdg] at hfo2
           have F5 := FindP_spec d e2 m (ordW ps) mt2 baseT hwl2 (by decide) (tb e2 mt2 baseT) (List.range i) (by rw [List.length_range]; omega) A c (wl d m (ordW ps)) ([UInt8.ofNat (48 + n % 10).toNat] ++ [46] ++ q.name) (by simp; omega) (sl E64 3 A c (ints (List.range i))) reads_sl
           rw [hfo2] at F5
           generalize wantL ps (knd K0) = L at *
           cases hL : L[(n - 1).toNat]? with
           | none =>
             have hgt := hno.1 hL
             rw [hL] at F5
             simp only [iv] at F5
             clear hL hig hno hfo hfo2 hq hqn hdg hKe hps1 hpl hwl hrl hql
             refine go ?_
             (repeat' (first | exact trivial | apply And.intro | intro _))
             all_goals first
               | (exfalso; omega)
               | rfl
               | (simp; done)
           | some j =>
             have hgt : ¬ (L.length : Int) < n := fun h => by rw [hno.2 h] at hL; cases hL
             have hj := hig j hL
             rw [hL] at F5
             simp only [iv] at F5
             clear hL hig hno hfo hfo2 hq hqn hdg hKe hps1 hpl hwl hrl hql
             refine go ?_
             (repeat' (first | exact trivial | apply And.intro | intro _))
             all_goals first
               | (exfalso; omega)
               | rfl
               | (simp; done)
           )
end Go.Proofs.YtckkipangiapbaaGreat
