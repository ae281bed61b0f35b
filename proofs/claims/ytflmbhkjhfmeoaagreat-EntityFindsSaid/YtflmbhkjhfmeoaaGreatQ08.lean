/-
  Walks and laws joined: WdRoom.
-/
import Derived.Test.YtflmbhkjhfmeoaaGreatQ07
set_option linter.unusedVariables false
set_option linter.unusedSimpArgs false
namespace Go.Proofs.YtflmbhkjhfmeoaaGreat
open Go.SL
set_option maxHeartbeats 8000000
set_option maxRecDepth 20000
theorem Dir_spec (i : Nat) (hi : i < 6) : Trip Tryz.prog 153 [.int .i64 (i : Int)] [] (fun v Ps => v = str (dirT i) ∧ Ps = []) := by
  refine Trip.of (m := 15) Tryz.func153 rfl rfl rfl ?_
  intro o Rs
  simp only [List.cons_append, List.nil_append, enumFrom]
  obtain rfl | rfl | rfl | rfl | rfl | rfl : i = 0 ∨ i = 1 ∨ i = 2 ∨ i = 3 ∨ i = 4 ∨ i = 5 := by omega
  all_goals (refine go ?_)
  all_goals (repeat' (first | exact trivial | apply And.intro | intro _))
  all_goals rfl
theorem dirT_len (i : Nat) : (dirT i).length ≤ 5 := by
  match i with
  | 0 | 1 | 2 | 3 | 4 | 5 => simp [dirT]
  | i + 6 => simp [dirT]
theorem exT_len (r : Rm) (k : Nat) : (exT r k).length ≤ 6 := by
  unfold exT
  split
  · simp
  · match k with
    | 0 | 1 | 2 | 3 | 4 | 5 => simp [dirT]
    | k + 6 => simp [dirT]
theorem exs_len (r : Rm) : ∀ (k : Nat), ((List.range k).flatMap (exT r)).length ≤ 6 * k
  | 0 => by simp
  | k + 1 => by
    have h1 := exs_len r k
    have h2 := exT_len r k
    rw [List.range_succ, List.flatMap_append, List.length_append]
    simp only [List.flatMap_cons, List.flatMap_nil, List.append_nil]; omega
theorem exs_step (r : Rm) (k : Nat) : (List.range (k + 1)).flatMap (exT r) = (List.range k).flatMap (exT r) ++ exT r k := by
  rw [List.range_succ, List.flatMap_append]; simp
theorem map_step {α β : Type} {l : List α} {k : Nat} {i : α} (f : α → β) (h : l[k]? = some i) : (l.take (k + 1)).map f = (l.take k).map f ++ [f i] := by
  rw [List.take_add_one, h]; simp
theorem kind_len {tab : Tab} (bt : Bt tab) (p : Int) : (kindN tab p).length ≤ 10000 := by
  unfold kindN
  split
  · rename_i k hk
    obtain ⟨x, hx, _⟩ := find_get hk
    rw [getD_of hx]; exact bt.pn x (List.mem_of_getElem? hx)
  · simp
theorem mpr_len {tab : Tab} (bt : Bt tab) (p : Int) : (mprOf tab p).name.length ≤ 10000 := by
  unfold mprOf
  split
  · rename_i k hk
    obtain ⟨x, hx, _⟩ := find_get hk
    rw [getD_of hx]; exact bt.mn x (List.mem_of_getElem? hx)
  · simp
def lieT (tab : Tab) (w : Wld) (name : Tx) (l : List Nat) : List Sy := l.map fun i => (name, [65, 32] ++ kindN tab (w.things.getD i default).proto ++ [32, 108, 105, 101, 115, 32, 104, 101, 114, 101, 46])
theorem lieT_step {tab : Tab} {w : Wld} {name : Tx} {l : List Nat} {k i : Nat} {z : Thg} (hi : l[k]? = some i) (hz : w.things[i]? = some z) : lieT tab w name (l.take (k + 1)) = lieT tab w name (l.take k) ++ [(name, [65, 32] ++ kindN tab z.proto ++ [32, 108, 105, 101, 115, 32, 104, 101, 114, 101, 46])] := by
  rw [lieT, map_step _ hi, getD_of hz]; rfl
theorem lieT_len (tab : Tab) (w : Wld) (name : Tx) (l : List Nat) : (lieT tab w name l).length = l.length := by rw [lieT, List.length_map]
def mobT (tab : Tab) (w : Wld) (name : Tx) (l : List Nat) : List Sy := l.map fun i => (name, [65, 32] ++ (mprOf tab (w.mobs.getD i default).proto).name ++ [32, 105, 115, 32, 104, 101, 114, 101, 46])
theorem mobT_step {tab : Tab} {w : Wld} {name : Tx} {l : List Nat} {k i : Nat} {z : Mob} (hi : l[k]? = some i) (hz : w.mobs[i]? = some z) : mobT tab w name (l.take (k + 1)) = mobT tab w name (l.take k) ++ [(name, [65, 32] ++ (mprOf tab z.proto).name ++ [32, 105, 115, 32, 104, 101, 114, 101, 46])] := by
  rw [mobT, map_step _ hi, getD_of hz]; rfl
theorem mobT_len (tab : Tab) (w : Wld) (name : Tx) (l : List Nat) : (mobT tab w name l).length = l.length := by rw [mobT, List.length_map]
def hereWho (w : Wld) (name : Tx) (l : List Nat) : List Sy := (l.filter fun i => !((w.chars.getD i default).name == name)).map fun i => (name, capT (w.chars.getD i default).name ++ [32, 105, 115, 32, 104, 101, 114, 101, 46])
theorem hereWho_step {w : Wld} {name : Tx} {l : List Nat} {k i : Nat} {x : Chr} (hi : l[k]? = some i) (hx : w.chars[i]? = some x) : hereWho w name (l.take (k + 1)) = hereWho w name (l.take k) ++ if x.name = name then [] else [(name, capT x.name ++ [32, 105, 115, 32, 104, 101, 114, 101, 46])] := by
  rw [List.take_add_one, hi]
  simp only [hereWho, Option.toList_some, List.filter_append, List.map_append]
  congr 1
  by_cases h : x.name = name
  · simp [List.getD, hx, h]
  · simp [List.getD, hx, h]
theorem hereWho_len (w : Wld) (name : Tx) (l : List Nat) : (hereWho w name l).length ≤ l.length := by
  rw [hereWho, List.length_map]; exact List.length_filter_le _ _
theorem cap_len (s : Tx) : (capT s).length = s.length := by cases s <;> rfl
section
variable (t d e : Nat) (m : Lay) (w : Wld) (mt : Tay) (tab : Tab) (S : List Sy) (u : Int)
theorem RoomS_spec (bw : Bw w) (bt : Bt tab) (lm : Laid m w) (R : HProp) [hr : RT R e mt tab] (name : Tx) (hS : S.length ≤ 300000) :
    Trip Tryz.prog 108 [.pointer (some ⟨t, 0, none⟩), str name] [ts t d e S u, wl d m w, R] (fun v Ps => v = .tuple #[] ∧ Ps = [ts t d e (S ++ roomS tab w name) u, wl d m w, R]) := by
  refine Trip.of (m := 189) Tryz.func108 rfl rfl rfl ?_
  intro o Rs
  simp only [List.cons_append, List.nil_append, enumFrom]
  haveI : Plan 19 [103, 106, 110, 113] [0, 1, 2, 3, 4, 5, 6, 7, 8, 9, 10, 11, 12, 13, 14, 15, 16, 17, 18, 19, 20] := ⟨⟩
  haveI : Plan 30 [175, 178, 182, 185] [0, 1, 2, 3, 4, 5, 6, 7, 8, 9, 10, 11, 12, 13, 14, 15, 16, 17, 18] := ⟨⟩
  have zc : w.chars.length = (w.chars.zip m.dn).length := by rw [List.length_zip, lm.1, Nat.min_self]
  have b1 := bw.nc
  have b2 := bw.nt
  have b3 := bw.nm
  have b4 := bt.nr
  have F1 := Char_spec d m w name (by omega) lm (wl d m w)
  unfold roomS
  cases hc : charI w name with
  | none =>
    rw [hc] at F1
    simp only [iv] at F1 ⊢
    refine go ?_
    refine ⟨?_, by simp⟩ <;> intros
    exact ret0 ⟨rfl, by rw [List.append_nil]⟩
  | some c =>
    obtain ⟨x, hx, _⟩ := find_get hc
    have hcl := find_lt hc
    obtain ⟨⟨A0, c0⟩, hz, _⟩ := zip_get hx lm.1
    rw [hc] at F1
    simp only [iv, getD_of hx] at F1 ⊢
    have F2 := Room_spec e mt tab x.room (by omega) R
    cases hk : roomI tab x.room with
    | none =>
      rw [hk] at F2
      simp only [iv] at F2 ⊢
      refine go ?_
      refine ⟨?_, by simp⟩ <;> intros
      exact ret0 ⟨rfl, by rw [List.append_nil]⟩
    | some k0 =>
      obtain ⟨y, hy, _⟩ := find_get hk
      have hkl := find_lt hk
      rw [hk] at F2
      simp only [iv, getD_of hy] at F2 ⊢
      have F3 := say_spec t d e S u name y.name (by omega)
      refine go ?_
      refine ⟨?_, by simp⟩ <;> intros
      clear F1 F2 F3
      refine loop (fun i => i ≤ 6) (fun i => [(0, .pointer (some ⟨t, 0, none⟩)), (1, str name), (5, .int .i64 x.room), (6, .int .i64 (k0 : Int)), (7, str ([69, 120, 105, 116, 115, 58] ++ (List.range i).flatMap (exT y))), (8, .int .i64 (i : Int))])
        (fun i => ts t d e (S ++ [(name, y.name)]) u :: wl d m w :: R :: Rs) (fun i => 6 - i) 0 (Nat.zero_le _) (fun i hi => ?_)
      by_cases hi6 : i < 6
      · have F1 := Dir_spec i hi6
        have hdl := dirT_len i
        have hst := exs_step y i
        have hln := exs_len y i
        generalize (List.range i).flatMap (exT y) = acc at *
        have hyes : ¬ y.exits.getD i 0 = 0 → acc ++ exT y i = acc ++ 32 :: dirT i := fun h => by rw [exT, if_neg h]
        have hno : y.exits.getD i 0 = 0 → acc ++ exT y i = acc := fun h => by rw [exT, if_pos h, List.append_nil]
        obtain rfl | rfl | rfl | rfl | rfl | rfl : i = 0 ∨ i = 1 ∨ i = 2 ∨ i = 3 ∨ i = 4 ∨ i = 5 := by omega
        · refine go ?_
          (repeat' (first | exact trivial | apply And.intro | intro _))
          · exact rnd 1 (by decide) (by decide) ⟨rfl, rfl, rfl, rfl, congrArg (fun z => some (str z)) (by rw [hst, hyes (show ¬ y.e0 = 0 by assumption)]; rfl), rfl, trivial⟩
          · exact rnd 1 (by decide) (by decide) ⟨rfl, rfl, rfl, rfl, congrArg (fun z => some (str z)) (by rw [hst, hno (show y.e0 = 0 by assumption)]), rfl, trivial⟩
        · refine go ?_
          (repeat' (first | exact trivial | apply And.intro | intro _))
          · exact rnd 2 (by decide) (by decide) ⟨rfl, rfl, rfl, rfl, congrArg (fun z => some (str z)) (by rw [hst, hyes (show ¬ y.e1 = 0 by assumption)]; rfl), rfl, trivial⟩
          · exact rnd 2 (by decide) (by decide) ⟨rfl, rfl, rfl, rfl, congrArg (fun z => some (str z)) (by rw [hst, hno (show y.e1 = 0 by assumption)]), rfl, trivial⟩
        · refine go ?_
          (repeat' (first | exact trivial | apply And.intro | intro _))
          · exact rnd 3 (by decide) (by decide) ⟨rfl, rfl, rfl, rfl, congrArg (fun z => some (str z)) (by rw [hst, hyes (show ¬ y.e2 = 0 by assumption)]; rfl), rfl, trivial⟩
          · exact rnd 3 (by decide) (by decide) ⟨rfl, rfl, rfl, rfl, congrArg (fun z => some (str z)) (by rw [hst, hno (show y.e2 = 0 by assumption)]), rfl, trivial⟩
        · refine go ?_
          (repeat' (first | exact trivial | apply And.intro | intro _))
          · exact rnd 4 (by decide) (by decide) ⟨rfl, rfl, rfl, rfl, congrArg (fun z => some (str z)) (by rw [hst, hyes (show ¬ y.e3 = 0 by assumption)]; rfl), rfl, trivial⟩
          · exact rnd 4 (by decide) (by decide) ⟨rfl, rfl, rfl, rfl, congrArg (fun z => some (str z)) (by rw [hst, hno (show y.e3 = 0 by assumption)]), rfl, trivial⟩
        · refine go ?_
          (repeat' (first | exact trivial | apply And.intro | intro _))
          · exact rnd 5 (by decide) (by decide) ⟨rfl, rfl, rfl, rfl, congrArg (fun z => some (str z)) (by rw [hst, hyes (show ¬ y.e4 = 0 by assumption)]; rfl), rfl, trivial⟩
          · exact rnd 5 (by decide) (by decide) ⟨rfl, rfl, rfl, rfl, congrArg (fun z => some (str z)) (by rw [hst, hno (show y.e4 = 0 by assumption)]), rfl, trivial⟩
        · refine go ?_
          (repeat' (first | exact trivial | apply And.intro | intro _))
          · exact rnd 6 (by decide) (by decide) ⟨rfl, rfl, rfl, rfl, congrArg (fun z => some (str z)) (by rw [hst, hyes (show ¬ y.e5 = 0 by assumption)]; rfl), rfl, trivial⟩
          · exact rnd 6 (by decide) (by decide) ⟨rfl, rfl, rfl, rfl, congrArg (fun z => some (str z)) (by rw [hst, hno (show y.e5 = 0 by assumption)]), rfl, trivial⟩
      have hi7 : i = 6 := by omega
      have hln := exs_len y i
      have hex : exitsT y = if [69, 120, 105, 116, 115, 58] ++ (List.range i).flatMap (exT y) = [69, 120, 105, 116, 115, 58] then [69, 120, 105, 116, 115, 58] ++ (List.range i).flatMap (exT y) ++ [32, 110, 111, 110, 101] else [69, 120, 105, 116, 115, 58] ++ (List.range i).flatMap (exT y) := by rw [hi7]; rfl
      generalize hac : (List.range i).flatMap (exT y) = acc at *
      have hel : (exitsT y).length ≤ 100 := by rw [hex]; split <;> simp only [List.length_append, List.length_cons, List.length_nil] <;> omega
      refine gor ?_
      refine ⟨?_, by simp⟩ <;> intros
      refine C.seq ?_
      refine gor ?_
      refine ⟨?_, by simp⟩ <;> intros
      refine C.join (σ := Unit) (fun _ => True) (fun _ => [(0, .pointer (some ⟨t, 0, none⟩)), (1, str name), (5, .int .i64 x.room), (7, str (exitsT y))]) (fun _ => ts t d e (S ++ [(name, y.name)]) u :: wl d m w :: R :: Rs) ?_ ?_
      · refine go ?_
        (repeat' (first | exact trivial | apply And.intro | intro _))
        · exact jn () trivial ⟨rfl, rfl, rfl, congrArg (fun z => some (str z)) (by rw [hex, if_pos (by assumption)]), trivial⟩
        · exact jn () trivial ⟨rfl, rfl, rfl, congrArg (fun z => some (str z)) (by rw [hex, if_neg (by assumption)]), trivial⟩
      rintro ⟨⟩ _
      have F1 := say_spec t d e (S ++ [(name, y.name)]) u name (exitsT y) (by simp only [List.length_append, List.length_cons, List.length_nil]; omega)
      have F2 := Here_spec d m w x.room (by omega) (wl d m w)
      refine go ?_
      refine ⟨?_, by simp⟩ <;> intros
      rename_i A c1
      clear F1 F2
      have hS2 : (S ++ [(name, y.name)] ++ [(name, exitsT y)]).length ≤ 300002 := by simp only [List.length_append, List.length_cons, List.length_nil]; omega
      clear hex hel hac
      generalize hS2e : S ++ [(name, y.name)] ++ [(name, exitsT y)] = S2 at *
      have hll : (hereL w x.room).length ≤ 100000 := Nat.le_trans (pos_len _ _) b2
      have hli := ints_len (hereL w x.room)
      refine loop (fun k => k ≤ (hereL w x.room).length) (fun k => [(0, .pointer (some ⟨t, 0, none⟩)), (1, str name), (5, .int .i64 x.room), (9, .slice A (ints (hereL w x.room)).length c1), (10, .int .i64 (k : Int))])
        (fun k => ts t d e (S2 ++ lieT tab w name ((hereL w x.room).take k)) u :: wl d m w :: R :: sl E64 3 A c1 (ints (hereL w x.room)) :: Rs) (fun k => (hereL w x.room).length - k) 0 (Nat.zero_le _) (fun k hk => ?_) (by (repeat (first | exact trivial | refine And.intro rfl ?_ | fail))) (by rw [List.take_zero, show lieT tab w name [] = [] from rfl, List.append_nil]; (exact ent_))
      by_cases hk2 : k < (hereL w x.room).length
      · obtain ⟨j, hj⟩ : ∃ j, (hereL w x.room)[k]? = some j := ⟨_, List.getElem?_eq_getElem hk2⟩
        have hj2 := ints_get hj
        obtain ⟨z, hz2, _⟩ := pos_mem (List.mem_of_getElem? hj)
        have hjl := (List.getElem?_eq_some_iff.1 hz2).1
        have hst := lieT_step (tab := tab) (name := name) hj hz2
        have hkl2 := kind_len bt z.proto
        have hln2 : (lieT tab w name ((hereL w x.room).take k)).length ≤ 100000 := by first | (rw [lieT_len, List.length_take]; omega) | (rw [mobT_len, List.length_take]; omega)
        generalize (lieT tab w name ((hereL w x.room).take k)) = Lk at *
        have F1 := kind_spec t d e mt tab (S2 ++ Lk) u bt R z.proto
        have F2 := say_spec t d e (S2 ++ Lk) u name ([65, 32] ++ kindN tab z.proto ++ [32, 108, 105, 101, 115, 32, 104, 101, 114, 101, 46]) (by rw [List.length_append]; omega)
        refine go ?_
        refine ⟨?_, by simp⟩ <;> intros
        exact rnd (k + 1) hk2 (by omega) (hh := by rw [hst, ← List.append_assoc]; (exact ent_))
      rw [List.take_of_length_le (by omega)]
      have hm1 : (lieT tab w name (hereL w x.room)).length ≤ 100000 := by rw [lieT_len]; exact hll
      generalize hM1 : (lieT tab w name (hereL w x.room)) = M1 at *
      have F1 := Mobs_spec d m w x.room (by omega) (wl d m w)
      refine go ?_
      refine ⟨?_, by simp⟩ <;> intros
      rename_i A2 c2
      clear F1
      have hS3 : (S2 ++ M1).length ≤ 400002 := by rw [List.length_append]; omega
      generalize hS3e : S2 ++ M1 = S3 at *
      have hll2 : (mobsL w x.room).length ≤ 100000 := Nat.le_trans (pos_len _ _) b3
      have hli2 := ints_len (mobsL w x.room)
      refine loop (fun k => k ≤ (mobsL w x.room).length) (fun k => [(0, .pointer (some ⟨t, 0, none⟩)), (1, str name), (5, .int .i64 x.room), (9, .slice A2 (ints (mobsL w x.room)).length c2), (11, .int .i64 (k : Int))])
        (fun k => ts t d e (S3 ++ mobT tab w name ((mobsL w x.room).take k)) u :: wl d m w :: R :: sl E64 3 A2 c2 (ints (mobsL w x.room)) :: Rs) (fun k => (mobsL w x.room).length - k) 0 (Nat.zero_le _) (fun k hk => ?_) (by (repeat (first | exact trivial | refine And.intro rfl ?_ | fail))) (by rw [List.take_zero, show mobT tab w name [] = [] from rfl, List.append_nil]; (exact ent_))
      by_cases hk2 : k < (mobsL w x.room).length
      · obtain ⟨j, hj⟩ : ∃ j, (mobsL w x.room)[k]? = some j := ⟨_, List.getElem?_eq_getElem hk2⟩
        have hj2 := ints_get hj
        obtain ⟨z, hz2, _⟩ := pos_mem (List.mem_of_getElem? hj)
        have hjl := (List.getElem?_eq_some_iff.1 hz2).1
        have hst := mobT_step (tab := tab) (name := name) hj hz2
        have hkl2 := mpr_len bt z.proto
        have hln2 : (mobT tab w name ((mobsL w x.room).take k)).length ≤ 100000 := by first | (rw [lieT_len, List.length_take]; omega) | (rw [mobT_len, List.length_take]; omega)
        generalize (mobT tab w name ((mobsL w x.room).take k)) = Lk at *
        have F1 := mob_spec t d e m w mt tab (S3 ++ Lk) u bw bt R j z hz2
        have F2 := say_spec t d e (S3 ++ Lk) u name ([65, 32] ++ (mprOf tab z.proto).name ++ [32, 105, 115, 32, 104, 101, 114, 101, 46]) (by rw [List.length_append]; omega)
        refine go ?_
        refine ⟨?_, by simp⟩ <;> intros
        exact rnd (k + 1) hk2 (by omega) (hh := by rw [hst, ← List.append_assoc]; (exact ent_))
      rw [List.take_of_length_le (by omega)]
      have hm2 : (mobT tab w name (mobsL w x.room)).length ≤ 100000 := by rw [mobT_len]; exact hll2
      generalize hM2 : (mobT tab w name (mobsL w x.room)) = M2 at *
      have F1 := Who_spec d m w x.room (by omega) lm (wl d m w)
      refine go ?_
      refine ⟨?_, by simp⟩ <;> intros
      rename_i A3 c3
      clear F1
      have hS4 : (S3 ++ M2).length ≤ 500002 := by rw [List.length_append]; omega
      generalize hS4e : S3 ++ M2 = S4 at *
      have hll3 : (whoL w x.room).length ≤ 1000 := Nat.le_trans (pos_len _ _) b1
      have hli3 := ints_len (whoL w x.room)
      refine loop (fun k => k ≤ (whoL w x.room).length) (fun k => [(0, .pointer (some ⟨t, 0, none⟩)), (1, str name), (9, .slice A3 (ints (whoL w x.room)).length c3), (12, .int .i64 (k : Int))])
        (fun k => ts t d e (S4 ++ hereWho w name ((whoL w x.room).take k)) u :: wl d m w :: R :: sl E64 3 A3 c3 (ints (whoL w x.room)) :: Rs) (fun k => (whoL w x.room).length - k) 0 (Nat.zero_le _) (fun k hk => ?_) (by (repeat (first | exact trivial | refine And.intro rfl ?_ | fail))) (by rw [List.take_zero, show hereWho w name [] = [] from rfl, List.append_nil]; (exact ent_))
      by_cases hk2 : k < (whoL w x.room).length
      · obtain ⟨j, hj⟩ : ∃ j, (whoL w x.room)[k]? = some j := ⟨_, List.getElem?_eq_getElem hk2⟩
        have hj2 := ints_get hj
        obtain ⟨z, hz2, _⟩ := who_mem hj
        obtain ⟨⟨A5, c5⟩, hz5, _⟩ := zip_get hz2 lm.1
        have hjl := (List.getElem?_eq_some_iff.1 hz2).1
        have hst := hereWho_step (name := name) hj hz2
        have hcl2 := bw.cn z (List.mem_of_getElem? hz2)
        have hcp := cap_len z.name
        have hln2 : (hereWho w name ((whoL w x.room).take k)).length ≤ 1000 := Nat.le_trans (hereWho_len ..) (by rw [List.length_take]; omega)
        generalize hereWho w name ((whoL w x.room).take k) = Lk at *
        have F1 := Cap_spec z.name (by omega)
        have F2 := say_spec t d e (S4 ++ Lk) u name (capT z.name ++ [32, 105, 115, 32, 104, 101, 114, 101, 46]) (by rw [List.length_append]; omega)
        refine go ?_
        refine ⟨fun h0 h1 => ?_, fun h0 h1 => ?_, by simp⟩
        · rw [if_neg h1] at hst
          exact rnd (k + 1) hk2 (by omega) (hh := by rw [hst, ← List.append_assoc]; (exact ent_))
        · rw [if_pos h1, List.append_nil] at hst
          exact rnd (k + 1) hk2 (by omega) (hh := by rw [hst]; (exact ent_))
      rw [List.take_of_length_le (by omega)]
      refine go ?_
      refine ⟨?_, by simp⟩ <;> intros
      refine ret0 (Ps := [ts t d e (S4 ++ hereWho w name (whoL w x.room)) u, wl d m w, R]) ⟨rfl, ?_⟩
      rw [← hS4e, ← hS3e, ← hS2e, ← hM1, ← hM2]
      simp only [hereWho, lieT, mobT, List.append_assoc, List.cons_append, List.nil_append]
end
end Go.Proofs.YtflmbhkjhfmeoaaGreat
