/-
  Walks and laws joined: WdTell WdPack.
-/
import Derived.Test.YtflmbhkjhfmeoaaGreatQ19
set_option linter.unusedVariables false
set_option linter.unusedSimpArgs false
namespace Go.Proofs.YtflmbhkjhfmeoaaGreat
open Go.SL
set_option maxHeartbeats 8000000
set_option maxRecDepth 20000
def whoT (l : List Chr) : Tx := (l.filter (·.on)).flatMap fun c => 32 :: capT c.name
theorem whoT_step {l : List Chr} {k : Nat} {x : Chr} (h : l[k]? = some x) : whoT (l.take (k + 1)) = whoT (l.take k) ++ if x.on then 32 :: capT x.name else [] := by
  rw [List.take_add_one, h]
  simp only [whoT, Option.toList_some, List.filter_append, List.flatMap_append]
  congr 1
  cases hx : x.on <;> simp [hx]
theorem whoT_len {l : List Chr} (h : ∀ c ∈ l, c.name.length ≤ 1000) : ∀ (k : Nat), k ≤ l.length → (whoT (l.take k)).length ≤ 1001 * k
  | 0, _ => by simp [whoT]
  | k + 1, hk => by
    have h1 := whoT_len h k (by omega)
    have hx : l[k]? = some l[k] := List.getElem?_eq_getElem hk
    have h2 := h l[k] (List.getElem_mem hk)
    rw [whoT_step hx, List.length_append]
    split
    · rw [List.length_cons, cap_len]; omega
    · simp; omega
def thT (tab : Tab) (w : Wld) (name tail : Tx) (l : List Nat) : List Sy := l.map fun i => (name, thingN tab w i ++ tail)
theorem thT_step {tab : Tab} {w : Wld} {name tail : Tx} {l : List Nat} {k i : Nat} {z : Thg} (hi : l[k]? = some i) (hz : w.things[i]? = some z) : thT tab w name tail (l.take (k + 1)) = thT tab w name tail (l.take k) ++ [(name, kindN tab z.proto ++ tail)] := by
  rw [thT, map_step _ hi, thingN, getD_of hz]; rfl
theorem thT_len (tab : Tab) (w : Wld) (name tail : Tx) (l : List Nat) : (thT tab w name tail l).length = l.length := by rw [thT, List.length_map]
section
variable (t d e : Nat) (m : Lay) (w : Wld) (mt : Tay) (tab : Tab) (S : List Sy) (u : Int)
theorem WhoS_spec (bw : Bw w) (lm : Laid m w) (name : Tx) (hS : S.length ≤ 500000) :
    Trip Tryz.prog 219 [.pointer (some ⟨t, 0, none⟩), str name] [ts t d e S u, wl d m w] (fun v Ps => v = .tuple #[] ∧ Ps = [ts t d e (S ++ whoS w name) u, wl d m w]) := by
  refine Trip.of (m := 55) Tryz.func219 rfl rfl rfl ?_
  intro o Rs
  simp only [List.cons_append, List.nil_append, enumFrom]
  have zc : w.chars.length = (w.chars.zip m.dn).length := by rw [List.length_zip, lm.1, Nat.min_self]
  have b1 := bw.nc
  have F1 := Char_spec d m w name (by omega) lm (wl d m w)
  unfold whoS
  cases hc : charI w name with
  | none =>
    rw [hc] at F1
    simp only [iv] at F1 ⊢
    refine go ?_
    refine ⟨?_, by simp⟩ <;> intros
    exact ret0 ⟨rfl, by rw [List.append_nil]⟩
  | some c =>
    rw [hc] at F1
    simp only [iv] at F1 ⊢
    refine go ?_
    refine ⟨?_, by simp⟩ <;> intros
    clear F1
    refine loop (fun k => k ≤ w.chars.length) (fun k => [(0, .pointer (some ⟨t, 0, none⟩)), (1, str name), (4, str ([72, 101, 114, 101, 32, 97, 114, 101, 58] ++ whoT (w.chars.take k))), (5, .int .i64 (k : Int))]) (fun k => ts t d e S u :: wl d m w :: Rs) (fun k => w.chars.length - k) 0 (Nat.zero_le _) fun k hk => ?_
    have hln := whoT_len bw.cn k hk
    by_cases hk2 : k < w.chars.length
    · obtain ⟨x, hx⟩ : ∃ x, w.chars[k]? = some x := ⟨_, List.getElem?_eq_getElem hk2⟩
      obtain ⟨⟨A0, c0⟩, hz, _⟩ := zip_get hx lm.1
      have hst := whoT_step hx
      have hxl := bw.cn x (List.mem_of_getElem? hx)
      have hcp := cap_len x.name
      have F1 := Cap_spec x.name (by omega)
      generalize whoT (w.chars.take k) = acc at *
      refine go ?_
      (repeat' (first | exact trivial | apply And.intro | intro _))
      all_goals first
        | exact rnd (k + 1) hk2 (by omega) ⟨rfl, rfl, congrArg (fun z => some (str z)) (by rw [hst, if_pos (by assumption)]; rfl), rfl, trivial⟩
        | exact rnd (k + 1) hk2 (by omega) ⟨rfl, rfl, congrArg (fun z => some (str z)) (by rw [hst, if_neg (by clear zc; simp_all)]; simp), rfl, trivial⟩
    · rw [List.take_of_length_le (by omega)] at hln ⊢
      have F1 := say_spec t d e S u name ([72, 101, 114, 101, 32, 97, 114, 101, 58] ++ whoT w.chars) (by omega)
      generalize hac : whoT w.chars = acc at *
      unfold whoT at hac
      rw [hac]
      refine go ?_
      refine ⟨?_, by simp⟩ <;> intros
      exact ret0 ⟨rfl, rfl⟩
theorem Score_spec (bw : Bw w) (lm : Laid m w) (name : Tx) (hb : ∀ x ∈ w.chars, (-1000000000000000000 ≤ x.gold ∧ x.gold ≤ 1000000000000000000) ∧ (-1000000000000000000 ≤ x.bank ∧ x.bank ≤ 1000000000000000000) ∧ (-1000000000000000000 ≤ x.xp ∧ x.xp ≤ 1000000000000000000) ∧ (-1000000000000000000 ≤ x.hp ∧ x.hp ≤ 1000000000000000000)) (hS : S.length ≤ 500000) :
    Trip Tryz.prog 222 [.pointer (some ⟨t, 0, none⟩), str name] [ts t d e S u, wl d m w] (fun v Ps => v = .tuple #[] ∧ Ps = [ts t d e (S ++ scoreS nT w name) u, wl d m w]) := by
  refine Trip.of (m := 59) Tryz.func222 rfl rfl rfl ?_
  intro o Rs
  simp only [List.cons_append, List.nil_append, enumFrom]
  haveI : Plan 3 [27, 33, 38, 43, 49, 54] [0, 1, 2, 3, 8, 9, 13, 14, 18, 19, 24, 25, 29, 30, 4, 5, 6, 7, 10, 11, 12, 15, 16, 17, 20, 21, 22, 23, 26, 27, 28, 31, 32, 33, 34] := ⟨⟩
  have zc : w.chars.length = (w.chars.zip m.dn).length := by rw [List.length_zip, lm.1, Nat.min_self]
  have b1 := bw.nc
  have F1 := Char_spec d m w name (by omega) lm (wl d m w)
  unfold scoreS
  cases hc : charI w name with
  | none =>
    rw [hc] at F1
    simp only [iv] at F1 ⊢
    refine go ?_
    refine ⟨?_, by simp⟩ <;> intros
    exact ret0 ⟨rfl, by rw [List.append_nil]⟩
  | some c =>
    obtain ⟨x, hx, _⟩ := find_get hc
    have hcl := find_lt hc
    obtain ⟨⟨A0, c0⟩, hz, _⟩ := zip_get hx lm.1
    rw [hc] at F1
    simp only [iv, getD_of hx] at F1 ⊢
    obtain ⟨⟨g1, g2⟩, ⟨g3, g4⟩, ⟨g5, g6⟩, g7, g8⟩ := hb x (List.mem_of_getElem? hx)
    have hlv := level_le x.xp (by omega)
    have hmx : -1000000000000000000 ≤ maxHpN x.xp ∧ maxHpN x.xp ≤ 1000000000000000000 := by unfold maxHpN; omega
    have F2 := Level_spec x.xp (by omega) (by omega)
    have F3 := MaxHp_spec x.xp (by omega) (by omega)
    have n1 := nT_len (levelN x.xp) (by omega) (by omega)
    have n2 := nT_len x.xp (by omega) (by omega)
    have n3 := nT_len x.hp (by omega) (by omega)
    have n4 := nT_len (maxHpN x.xp) (by omega) (by omega)
    have n5 := nT_len x.gold (by omega) (by omega)
    have n6 := nT_len x.bank (by omega) (by omega)
    have F4 := n_spec (levelN x.xp) (by omega) (by omega)
    have F5 := n_spec x.xp (by omega) (by omega)
    have F6 := n_spec x.hp (by omega) (by omega)
    have F7 := n_spec (maxHpN x.xp) (by omega) (by omega)
    have F8 := n_spec x.gold (by omega) (by omega)
    have F9 := n_spec x.bank (by omega) (by omega)
    have F10 := say_spec t d e S u name ([76, 101, 118, 101, 108, 32] ++ nT (levelN x.xp) ++ [44, 32] ++ nT x.xp ++ [32, 120, 112, 44, 32] ++ nT x.hp ++ [32, 111, 102, 32] ++ nT (maxHpN x.xp) ++ [32, 104, 112, 44, 32] ++ nT x.gold ++ [32, 103, 111, 108, 100, 44, 32] ++ nT x.bank ++ [32, 105, 110, 32, 116, 104, 101, 32, 98, 97, 110, 107, 46]) (by omega)
    refine go ?_
    refine ⟨?_, by simp⟩ <;> intros
    exact ret0 ⟨rfl, rfl⟩
end
end Go.Proofs.YtflmbhkjhfmeoaaGreat
namespace Go.Proofs.YtflmbhkjhfmeoaaGreat
open Go.SL
set_option maxHeartbeats 8000000
set_option maxRecDepth 20000
structure Okt (t : Tab) : Prop where
  it : ∀ s ∈ t.shops, ∀ id ∈ s.items, ∃ p, protoI t id = some p
  sl : ∀ s ∈ t.shops, s.items.length ≤ 1000
  pp : ∀ p ∈ t.protos, 0 ≤ p.price ∧ p.price ≤ 1099511627776
section
variable (t d e : Nat) (m : Lay) (w : Wld) (mt : Tay) (tab : Tab) (S : List Sy) (u : Int)
theorem Pack_spec (bw : Bw w) (bt : Bt tab) (lm : Laid m w) (R : HProp) [hr : RT R e mt tab] (name : Tx) (hS : S.length ≤ 200000) :
    Trip Tryz.prog 218 [.pointer (some ⟨t, 0, none⟩), str name] [ts t d e S u, wl d m w, R] (fun v Ps => v = .tuple #[] ∧ Ps = [ts t d e (S ++ packS tab w name) u, wl d m w, R]) := by
  refine Trip.of (m := 90) Tryz.func218 rfl rfl rfl ?_
  intro o Rs
  simp only [List.cons_append, List.nil_append, enumFrom]
  haveI : Plan 9 [51, 54, 58, 61] [0, 1, 2, 3, 4, 5, 6, 7, 8, 9, 10, 11, 12, 13, 14, 15, 16, 17, 18] := ⟨⟩
  haveI : Plan 13 [76, 79, 83, 86] [0, 1, 2, 3, 4, 5, 6, 7, 8, 9, 10, 11, 12, 13, 14, 15, 16, 17, 18, 19] := ⟨⟩
  have zc : w.chars.length = (w.chars.zip m.dn).length := by rw [List.length_zip, lm.1, Nat.min_self]
  have b1 := bw.nc
  have b2 := bw.nt
  have F1 := Char_spec d m w name (by omega) lm (wl d m w)
  unfold packS
  cases hc : charI w name with
  | none =>
    rw [hc] at F1
    simp only [iv] at F1 ⊢
    refine go ?_
    refine ⟨?_, by simp⟩ <;> intros
    exact ret0 ⟨rfl, by rw [List.append_nil]⟩
  | some c =>
    rw [hc] at F1
    simp only [iv] at F1 ⊢
    have F2 := Of_spec d m w name 2 (by omega) (wl d m w)
    have F3 := Of_spec d m w name 3 (by omega) (wl d m w)
    have l1 : (ofL w name 2).length ≤ 100000 := Nat.le_trans (pos_len _ _) b2
    have l2 : (ofL w name 3).length ≤ 100000 := Nat.le_trans (pos_len _ _) b2
    have i1 := ints_len (ofL w name 2)
    have i2 := ints_len (ofL w name 3)
    by_cases h0 : (ofL w name 2).length + (ofL w name 3).length = 0
    · rw [if_pos h0]
      have F4 := say_spec t d e S u name [89, 111, 117, 32, 99, 97, 114, 114, 121, 32, 110, 111, 116, 104, 105, 110, 103, 46] (by omega)
      refine go ?_
      refine ⟨?_, by simp⟩ <;> intros
      exact ret0 ⟨rfl, rfl⟩
    · rw [if_neg h0]
      have F4 := say_spec t d e S u name [89, 111, 117, 32, 99, 97, 114, 114, 121, 58] (by omega)
      refine go ?_
      refine ⟨?_, by simp⟩ <;> intros
      rename_i A2 c2 A3 c3 hx1
      clear F1 F2 F3 F4
      have hS1 : (S ++ [(name, [89, 111, 117, 32, 99, 97, 114, 114, 121, 58])]).length ≤ 200001 := by rw [List.length_append, List.length_singleton]; omega
      generalize hS1e : S ++ [(name, [89, 111, 117, 32, 99, 97, 114, 114, 121, 58])] = S1 at *
      refine loop (fun k => k ≤ (ofL w name 2).length) (fun k => [(0, .pointer (some ⟨t, 0, none⟩)), (1, str name), (4, .slice A2 (ints (ofL w name 2)).length c2), (5, .slice A3 (ints (ofL w name 3)).length c3), (6, .int .i64 (k : Int))]) (fun k => ts t d e (S1 ++ thT tab w name [] ((ofL w name 2).take k)) u :: wl d m w :: R :: sl E64 3 A2 c2 (ints (ofL w name 2)) :: sl E64 3 A3 c3 (ints (ofL w name 3)) :: Rs) (fun k => (ofL w name 2).length - k) 0 (Nat.zero_le _) (fun k hk => ?_) (by (repeat (first | exact trivial | refine And.intro rfl ?_ | fail))) (by rw [List.take_zero, show thT tab w name [] [] = [] from rfl, List.append_nil]; (exact ent_))
      by_cases hk2 : k < (ofL w name 2).length
      · obtain ⟨j, hj⟩ : ∃ j, (ofL w name 2)[k]? = some j := ⟨_, List.getElem?_eq_getElem hk2⟩
        have hj2 := ints_get hj
        obtain ⟨z, hz2, _⟩ := of_mem hj
        have hjl := (List.getElem?_eq_some_iff.1 hz2).1
        have hst := thT_step (tab := tab) (name := name) (tail := []) hj hz2
        have hkl2 := kind_len bt z.proto
        have hln2 : (thT tab w name [] ((ofL w name 2).take k)).length ≤ 100000 := by rw [thT_len, List.length_take]; omega
        generalize thT tab w name [] ((ofL w name 2).take k) = Lk at *
        rw [List.append_nil] at hst
        have F1 := kind_spec t d e mt tab (S1 ++ Lk) u bt R z.proto
        have F2 := say_spec t d e (S1 ++ Lk) u name (kindN tab z.proto) (by rw [List.length_append]; omega)
        refine go ?_
        refine ⟨?_, by simp⟩ <;> intros
        exact rnd (k + 1) hk2 (by omega) (hh := by rw [hst, ← List.append_assoc]; (exact ent_))
      rw [List.take_of_length_le (by omega)]
      have hm1 : (thT tab w name [] (ofL w name 2)).length ≤ 100000 := by rw [thT_len]; exact l1
      generalize hM1 : thT tab w name [] (ofL w name 2) = M1 at *
      have hS2 : (S1 ++ M1).length ≤ 300001 := by rw [List.length_append]; omega
      generalize hS2e : S1 ++ M1 = S2 at *
      refine go ?_
      refine ⟨?_, by simp⟩ <;> intros
      refine loop (fun k => k ≤ (ofL w name 3).length) (fun k => [(0, .pointer (some ⟨t, 0, none⟩)), (1, str name), (5, .slice A3 (ints (ofL w name 3)).length c3), (7, .int .i64 (k : Int))]) (fun k => ts t d e (S2 ++ thT tab w name [32, 40, 119, 111, 114, 110, 41] ((ofL w name 3).take k)) u :: wl d m w :: R :: sl E64 3 A2 c2 (ints (ofL w name 2)) :: sl E64 3 A3 c3 (ints (ofL w name 3)) :: Rs) (fun k => (ofL w name 3).length - k) 0 (Nat.zero_le _) (fun k hk => ?_) (by (repeat (first | exact trivial | refine And.intro rfl ?_ | fail))) (by rw [List.take_zero, show thT tab w name [32, 40, 119, 111, 114, 110, 41] [] = [] from rfl, List.append_nil]; (exact ent_))
      by_cases hk2 : k < (ofL w name 3).length
      · obtain ⟨j, hj⟩ : ∃ j, (ofL w name 3)[k]? = some j := ⟨_, List.getElem?_eq_getElem hk2⟩
        have hj2 := ints_get hj
        obtain ⟨z, hz2, _⟩ := of_mem hj
        have hjl := (List.getElem?_eq_some_iff.1 hz2).1
        have hst := thT_step (tab := tab) (name := name) (tail := [32, 40, 119, 111, 114, 110, 41]) hj hz2
        have hkl2 := kind_len bt z.proto
        have hln2 : (thT tab w name [32, 40, 119, 111, 114, 110, 41] ((ofL w name 3).take k)).length ≤ 100000 := by rw [thT_len, List.length_take]; omega
        generalize thT tab w name [32, 40, 119, 111, 114, 110, 41] ((ofL w name 3).take k) = Lk at *
        have F1 := kind_spec t d e mt tab (S2 ++ Lk) u bt R z.proto
        have F2 := say_spec t d e (S2 ++ Lk) u name (kindN tab z.proto ++ [32, 40, 119, 111, 114, 110, 41]) (by rw [List.length_append]; omega)
        refine go ?_
        refine ⟨?_, by simp⟩ <;> intros
        exact rnd (k + 1) hk2 (by omega) (hh := by rw [hst, ← List.append_assoc]; (exact ent_))
      rw [List.take_of_length_le (by omega)]
      refine go ?_
      refine ⟨?_, by simp⟩ <;> intros
      refine ret0 (Ps := [ts t d e (S2 ++ thT tab w name [32, 40, 119, 111, 114, 110, 41] (ofL w name 3)) u, wl d m w, R]) ⟨rfl, ?_⟩
      rw [← hS2e, ← hS1e, ← hM1]
      simp only [thT, List.append_assoc, List.cons_append, List.nil_append, List.append_nil]
def forT (tab : Tab) (name : Tx) (l : List Int) : List Sy := l.map fun id => (name, (tab.protos.getD ((protoI tab id).getD 0) default).name ++ [32, 102, 111, 114, 32] ++ nT (tab.protos.getD ((protoI tab id).getD 0) default).price)
theorem forT_step {tab : Tab} {name : Tx} {l : List Int} {k : Nat} {id : Int} {p : Nat} {z : Pro} (hi : l[k]? = some id) (hp : protoI tab id = some p) (hz : tab.protos[p]? = some z) : forT tab name (l.take (k + 1)) = forT tab name (l.take k) ++ [(name, z.name ++ [32, 102, 111, 114, 32] ++ nT z.price)] := by
  rw [forT, map_step _ hi, hp]
  simp only [Option.getD_some, getD_of hz]; rfl
theorem forT_len (tab : Tab) (name : Tx) (l : List Int) : (forT tab name l).length = l.length := by rw [forT, List.length_map]
theorem List_spec (bw : Bw w) (bt : Bt tab) (ok : Okt tab) (lm : Laid m w) (lt : TLaid mt tab) (R : HProp) [hr : RT R e mt tab] (name : Tx) (hS : S.length ≤ 200000) :
    Trip Tryz.prog 226 [.pointer (some ⟨t, 0, none⟩), str name] [ts t d e S u, wl d m w, R] (fun v Ps => v = .tuple #[] ∧ Ps = [ts t d e (S ++ listS tab w name) u, wl d m w, R]) := by
  refine Trip.of (m := 80) Tryz.func226 rfl rfl rfl ?_
  intro o Rs
  simp only [List.cons_append, List.nil_append, enumFrom]
  haveI : Plans 8 [45, 48, 52, 56, 59, 63, 66] [25, 27, 28, 29] [[0, 1, 2, 3, 4, 5, 6, 7, 8, 9, 10, 11, 12, 13, 14, 15, 16, 17, 18, 19, 20, 21, 22, 23, 24, 25, 26, 27, 28, 29], [0, 1, 2, 3, 4, 5, 6, 7, 8, 9, 10, 11, 12, 13, 14, 15, 16, 17, 18, 19, 20, 21, 22, 23, 24, 25, 26, 28, 27, 29], [0, 1, 2, 3, 4, 5, 6, 7, 8, 9, 10, 11, 12, 13, 14, 15, 16, 17, 18, 19, 20, 21, 22, 23, 24, 28, 25, 26, 27, 29]] := ⟨⟩
  haveI : Plan 9 [73, 74, 76] [0, 1, 2, 3, 4, 5, 6, 7, 8, 9] := ⟨⟩
  unfold listS
  have zc : w.chars.length = (w.chars.zip m.dn).length := by rw [List.length_zip, lm.1, Nat.min_self]
  have F1 := on_spec t d e m w S u bw lm name
  rcases hc : onI w name with _ | c
  · rw [hc] at F1
    simp only [iv] at F1 ⊢
    refine go ?_
    refine ⟨?_, by simp⟩ <;> intros
    exact ret0 ⟨rfl, by rw [List.append_nil]⟩
  obtain ⟨x, hx, hon, hnm⟩ := on_get hc
  have hcl := (List.getElem?_eq_some_iff.1 hx).1
  obtain ⟨⟨A0, c0⟩, hz, _⟩ := zip_get hx lm.1
  rw [hc] at F1
  simp only [iv, getD_of hx] at F1 ⊢
  have zs : tab.shops.length = (tab.shops.zip mt.it).length := by rw [List.length_zip, lt.2, Nat.min_self]
  have F2 := shop_spec t d e m w mt tab S u bw bt lm lt R name c x hx (by omega)
  rcases hsh : shopI tab w x.room with _ | ⟨s, k0⟩
  · rw [hsh] at F2
    simp only [Option.isNone_none, if_true] at F2 ⊢
    refine go ?_
    refine ⟨?_, by simp⟩ <;> intros
    exact ret0 ⟨rfl, rfl⟩
  rw [hsh] at F2
  simp only [Option.isNone_some, Bool.false_eq_true, if_false, List.append_nil] at F2 ⊢
  obtain ⟨y, hy⟩ : ∃ y, tab.shops[s]? = some y := by
    unfold shopI at hsh
    split at hsh
    · rename_i i k hi hk
      simp only [Option.some.injEq, Prod.mk.injEq] at hsh
      obtain ⟨y, hy, _⟩ := find_get hi
      exact ⟨y, by rw [← hsh.1]; exact hy⟩
    · cases hsh
  have hsl := (List.getElem?_eq_some_iff.1 hy).1
  obtain ⟨⟨A1, c1⟩, hz1, _⟩ := zip_get hy lt.2
  have hit : Reads R E64 A1 y.items := hr.it _ (List.mem_of_getElem? hz1)
  have hil := ok.sl y (List.mem_of_getElem? hy)
  have b4 := bt.np
  have F3 := say_spec t d e S u name [70, 111, 114, 32, 115, 97, 108, 101, 58] (by omega)
  refine go ?_
  refine ⟨?_, by simp⟩ <;> intros
  clear F1 F2 F3
  have hS1 : (S ++ [(name, [70, 111, 114, 32, 115, 97, 108, 101, 58])]).length ≤ 200001 := by rw [List.length_append, List.length_singleton]; omega
  generalize hS1e : S ++ [(name, [70, 111, 114, 32, 115, 97, 108, 101, 58])] = S1 at *
  refine loop (fun k => k ≤ y.items.length) (fun k => [(0, .pointer (some ⟨t, 0, none⟩)), (1, str name), (5, .int .i64 (s : Int)), (7, .int .i64 (k : Int))]) (fun k => ts t d e (S1 ++ forT tab name (y.items.take k)) u :: wl d m w :: R :: Rs) (fun k => y.items.length - k) 0 (Nat.zero_le _) (fun k hk => ?_) (by (repeat (first | exact trivial | refine And.intro rfl ?_ | fail))) (by rw [List.take_zero, show forT tab name [] = [] from rfl, List.append_nil]; (exact ent_))
  by_cases hk2 : k < y.items.length
  · obtain ⟨id, hid⟩ : ∃ id, y.items[k]? = some id := ⟨_, List.getElem?_eq_getElem hk2⟩
    obtain ⟨p, hp⟩ := ok.it y (List.mem_of_getElem? hy) id (List.mem_of_getElem? hid)
    obtain ⟨z, hz2, _⟩ := find_get hp
    have hpl := find_lt hp
    have hst := forT_step (name := name) hid hp hz2
    have hpr := ok.pp z (List.mem_of_getElem? hz2)
    have hnl := bt.pn z (List.mem_of_getElem? hz2)
    have hln := nT_len z.price (by omega) (by omega)
    have hln2 : (forT tab name (y.items.take k)).length ≤ 1000 := by rw [forT_len, List.length_take]; omega
    generalize forT tab name (y.items.take k) = Lk at *
    have F1 := Proto_spec e mt tab id (by omega) R
    rw [hp] at F1
    simp only [iv] at F1
    have F2 := n_spec z.price (by omega) (by omega)
    have F3 := say_spec t d e (S1 ++ Lk) u name (z.name ++ [32, 102, 111, 114, 32] ++ nT z.price) (by rw [List.length_append]; omega)
    refine go ?_
    (repeat' (first | exact trivial | apply And.intro | intro _))
    all_goals exact rnd (k + 1) hk2 (by omega) (hh := by rw [hst, ← List.append_assoc]; (exact ent_))
  rw [List.take_of_length_le (by omega)]
  refine go ?_
  refine ⟨?_, by simp⟩ <;> intros
  refine ret0 (Ps := [ts t d e (S1 ++ forT tab name y.items) u, wl d m w, R]) ⟨rfl, ?_⟩
  rw [← hS1e]
  simp only [forT, itemsP, getD_of hy, List.map_map, List.append_assoc, List.cons_append, List.nil_append]
  rfl
end
end Go.Proofs.YtflmbhkjhfmeoaaGreat
