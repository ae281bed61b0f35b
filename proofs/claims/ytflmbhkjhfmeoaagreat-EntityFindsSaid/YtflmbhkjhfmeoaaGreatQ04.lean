/-
  Walks and laws joined: WdSay WdOn.
-/
import Derived.Test.YtflmbhkjhfmeoaaGreatQ03
import Derived.Test.YtflmbhkjhfmeoaaGreatQ05
set_option linter.unusedVariables false
set_option linter.unusedSimpArgs false
namespace Go.Proofs.YtflmbhkjhfmeoaaGreat
open Go.SL
set_option maxHeartbeats 8000000
set_option maxRecDepth 20000
theorem _root_.Go.SL.Trip.exo {P : Program} {f : FuncId} {args : List Value} {β : Type} {φ : β → Prop} {Ps : β → List HProp} {Pre : List HProp} {q : Value → List HProp → Prop} (h : ∀ x, φ x → Trip P f args (Ps x ++ Pre) q) : Trip P f args (exL φ Ps :: Pre) q := by
  constructor; intro o w Rs hw
  obtain ⟨x, hx⟩ := Sat.exo hw
  exact (h x.1 x.2).run o w Rs (by rw [List.append_assoc]; exact hx)
theorem say_spec (t d e : Nat) (S : List Sy) (u : Int) (to text : Tx) (hS : S.length ≤ 1000000) : Trip Tryz.prog 54 [.pointer (some ⟨t, 0, none⟩), str to, str text] [ts t d e S u] (fun v Ps => v = .tuple #[] ∧ Ps = [ts t d e (S ++ [(to, text)]) u]) := by
  refine Trip.exo fun p _ => ?_
  refine Trip.of (m := 18) Tryz.func54 rfl rfl rfl ?_
  intro o Rs
  simp only [List.cons_append, List.nil_append, enumFrom]
  refine go ?_
  refine ⟨?_, by simp⟩ <;> intros
  rename_i b A' c'
  refine efold (ts t d e (S ++ [(to, text)]) u) (A', c') trivial ?_
  exact ret0 ⟨rfl, rfl⟩
theorem others_spec (t d e : Nat) (m : Lay) (w : Wld) (S : List Sy) (u : Int) (room : Int) (but text : Tx) (hS : S.length ≤ 500000) (hw : w.chars.length ≤ 1000) (lm : Laid m w) :
    Trip Tryz.prog 57 [.pointer (some ⟨t, 0, none⟩), .int .i64 room, str but, str text] [ts t d e S u, wl d m w] (fun v Ps => v = .tuple #[] ∧ Ps = [ts t d e (S ++ othersL w room but text) u, wl d m w]) := by
  refine Trip.of (m := 55) Tryz.func57 rfl rfl rfl ?_
  intro o Rs
  simp only [List.cons_append, List.nil_append, enumFrom]
  haveI : Plan 5 [42, 45, 49, 52] [0, 1, 2, 3, 4, 5, 6, 7, 8, 9, 10, 11, 12, 13, 14, 15, 16] := ⟨⟩
  have zc : w.chars.length = (w.chars.zip m.dn).length := by rw [List.length_zip, lm.1, Nat.min_self]
  have F1 := Who_spec d m w room (by omega) lm (wl d m w)
  refine go ?_
  refine ⟨?_, by simp⟩ <;> intros
  rename_i A c
  clear F1
  have hlw : (ints (whoL w room)).length ≤ 1000 := by rw [ints_len]; exact Nat.le_trans (pos_len _ _) hw
  unfold othersL
  refine loop (fun k => k ≤ (ints (whoL w room)).length) (fun k => [(0, .pointer (some ⟨t, 0, none⟩)), (2, str but), (3, str text), (8, .slice A (ints (whoL w room)).length c), (9, .int .i64 (k : Int))]) (fun k => ts t d e (S ++ oth w but text ((whoL w room).take k)) u :: wl d m w :: sl E64 3 A c (ints (whoL w room)) :: Rs) (fun k => (ints (whoL w room)).length - k) 0 (Nat.zero_le _) (fun k hk => ?_) (by (repeat (first | exact trivial | refine And.intro rfl ?_ | fail))) (by rw [List.take_zero, show oth w but text [] = [] from rfl, List.append_nil]; (exact ent_))
  by_cases hk2 : k < (ints (whoL w room)).length
  · obtain ⟨i, hi⟩ : ∃ i, (whoL w room)[k]? = some i := ⟨_, List.getElem?_eq_getElem (by rw [ints_len] at hk2; exact hk2)⟩
    have hi2 := ints_get hi
    obtain ⟨x, hx, _⟩ := who_mem hi
    obtain ⟨⟨A0, c0⟩, hz, _⟩ := zip_get hx lm.1
    have hst := oth_step (but := but) (text := text) hi hx
    have hol : (oth w but text ((whoL w room).take k)).length ≤ 1000 := Nat.le_trans (oth_len ..) (by rw [List.length_take]; rw [ints_len] at hlw; omega)
    have hil : i < w.chars.length := (List.getElem?_eq_some_iff.1 hx).1
    have F1 := say_spec t d e (S ++ oth w but text ((whoL w room).take k)) u x.name text (by rw [List.length_append]; omega)
    refine go ?_
    refine ⟨fun h0 h3 => ?_, fun h0 h3 => ?_, by simp⟩
    · rw [if_neg h3] at hst
      rw [List.append_assoc, ← hst]
      exact rnd (k + 1) hk2 (by omega)
    · rw [if_pos h3, List.append_nil] at hst
      rw [← hst]
      exact rnd (k + 1) hk2 (by omega)
  · rw [List.take_of_length_le (by rw [ints_len] at hk2; omega)]
    refine go ?_
    refine ⟨?_, by simp⟩ <;> intros
    exact ret0 ⟨rfl, rfl⟩
end Go.Proofs.YtflmbhkjhfmeoaaGreat
namespace Go.Proofs.YtflmbhkjhfmeoaaGreat
open Go.SL
set_option maxHeartbeats 8000000
set_option maxRecDepth 20000
structure Bw (w : Wld) : Prop where
  nc : w.chars.length ≤ 1000
  nt : w.things.length ≤ 100000
  nm : w.mobs.length ≤ 100000
  nh : w.houses.length ≤ 1000
  nl : w.lots.length ≤ 1000
  ni : w.tills.length ≤ 1000
  gs : ∀ h ∈ w.houses, h.guests.length ≤ 100000
  cn : ∀ c ∈ w.chars, c.name.length ≤ 1000
structure Bt (t : Tab) : Prop where
  nr : t.rooms.length ≤ 100000
  np : t.protos.length ≤ 100000
  nm : t.mobs.length ≤ 100000
  nc : t.recipes.length ≤ 100000
  nq : t.quests.length ≤ 100000
  ns : t.shops.length ≤ 100000
  rn : ∀ x ∈ t.rooms, x.name.length ≤ 10000
  pn : ∀ x ∈ t.protos, x.name.length ≤ 10000
  mn : ∀ x ∈ t.mobs, x.name.length ≤ 10000
section
variable {P : Program} {n : Nat} {o : Outer} {sr : List Tmp} {ops : Array Oper} {Q : Post} {St : List HProp} {rest : List Oper} {xs : Env} {hs : List HProp}
variable {d : Option Tmp} {ty : TypeId} {pos : String} {af : Array Edge} {α : Type} {En : Enc α} {A : Option Addr} {l : List α} {R : HProp}
theorem W.ldf {t : Nat} {x : Operand} {y : α} {v : Value} [h1 : One P t] (hx : ev xs x = some (.pointer (some ⟨bk A, of A, none⟩))) (hf : FindS hs R En A l) (hy : l[0]? = some y) (hv : (En.f y)[0]? = some v)
    (hns : stbD sr d = false) (hd : fits n d = true) (k : W P n o sr ops Q St rest (put d v xs) hs) : W P n o sr ops Q St (⟨d, .load t x, ty, pos, af, none⟩ :: rest) xs hs :=
  W.ld0 (i := 0) (sz := En.sz) (by rw [Nat.zero_mul]; exact hx) hf rfl hy hv hns hd k
end
theorem cap_yes {c : UInt8} {r : Tx} (h1 : 97 ≤ (c.toNat : Int)) (h2 : (c.toNat : Int) ≤ 122) : (c :: r).set 0 (UInt8.ofNat ((c.toNat : Int) - 32).toNat) = capT (c :: r) := by
  have e : UInt8.ofNat ((c.toNat : Int) - 32).toNat = c - 32 := by
    rw [← UInt8.toNat_inj, UInt8.toNat_sub_of_le c 32 (by rw [UInt8.le_iff_toNat_le]; show 32 ≤ c.toNat; omega), UInt8.toNat_ofNat']
    show _ = c.toNat - 32
    omega
  rw [e, capT, if_pos (by omega)]; rfl
theorem cap_no {c : UInt8} {r : Tx} (h1 : ¬ (97 ≤ (c.toNat : Int) ∧ (c.toNat : Int) ≤ 122)) : capT (c :: r) = c :: r := by
  rw [capT, if_neg (by omega)]
theorem Cap_spec (s : Tx) (hs : s.length ≤ 100000) : Trip Tryz.prog 58 [str s] [] (fun v Ps => v = str (capT s) ∧ Ps = []) := by
  refine Trip.of (m := 28) Tryz.func58 rfl rfl rfl ?_
  intro o Rs
  simp only [List.cons_append, List.nil_append, enumFrom]
  cases s with
  | nil =>
    refine go ?_
    refine ⟨?_, by simp⟩ <;> intros
    rfl
  | cons c r =>
    have hc := c.toNat_lt
    refine go ?_
    (repeat' (first | exact trivial | apply And.intro | intro _))
    all_goals (try simp only [List.getElem_cons_zero] at *)
    all_goals first | (rw [cap_yes (by omega) (by omega)]) | (rw [cap_no (by omega)]) | (exfalso; rename_i h; simp only [List.length_cons] at h; omega)
theorem Start_spec (d : Nat) (m : Tay) (t : Tab) (bt : Bt t) (P : HProp) [hp : RT P d m t] : Trip Tryz.prog 107 [.pointer (some ⟨d, 0, none⟩)] [P] (fun v Ps => v = .int .i64 (startR t) ∧ Ps = [P]) := by
  refine Trip.of (m := 16) Tryz.func107 rfl rfl rfl ?_
  intro o Rs
  simp only [List.cons_append, List.nil_append, enumFrom]
  have b1 := bt.nr
  unfold startR
  cases hr : t.rooms with
  | nil =>
    have h0 : t.rooms.length = 0 := by rw [hr]; rfl
    refine go ?_
    simp
  | cons r l =>
    have hx : t.rooms[0]? = some r := by rw [hr]; rfl
    have h0 : t.rooms.length = l.length + 1 := by rw [hr]; rfl
    refine go ?_
    refine ⟨?_, by simp⟩ <;> intros
    refine W.ldf (by exact rfl) (.here hp.ro) hx (by exact rfl) rfl rfl ?_
    refine go ?_
    simp
section
variable (t d e : Nat) (m : Lay) (w : Wld) (mt : Tay) (tab : Tab) (S : List Sy) (u : Int)
theorem on_spec (bw : Bw w) (lm : Laid m w) (name : Tx) : Trip Tryz.prog 53 [.pointer (some ⟨t, 0, none⟩), str name] [ts t d e S u, wl d m w] (fun v Ps => v = .int .i64 (iv (onI w name)) ∧ Ps = [ts t d e S u, wl d m w]) := by
  refine Trip.of (m := 29) Tryz.func53 rfl rfl rfl ?_
  intro o Rs
  simp only [List.cons_append, List.nil_append, enumFrom]
  have b1 := bw.nc
  have zc : w.chars.length = (w.chars.zip m.dn).length := by rw [List.length_zip, lm.1, Nat.min_self]
  have F1 := Char_spec d m w name (by omega) lm (wl d m w)
  unfold onI
  cases hc : charI w name with
  | none =>
    rw [hc] at F1
    simp only [iv] at F1 ⊢
    refine go ?_
    simp
  | some k =>
    obtain ⟨x, hx, _⟩ := find_get hc
    have hk := find_lt hc
    obtain ⟨⟨A0, c0⟩, hz, _⟩ := zip_get hx lm.1
    rw [hc] at F1
    simp only [iv, getD_of hx] at F1 ⊢
    refine go ?_
    (repeat' (first | exact trivial | apply And.intro | intro _))
    all_goals (clear zc; simp_all)
theorem kind_spec (bt : Bt tab) (R : HProp) [hr : RT R e mt tab] (proto : Int) : Trip Tryz.prog 154 [.pointer (some ⟨t, 0, none⟩), .int .i64 proto] [ts t d e S u, R] (fun v Ps => v = str (kindN tab proto) ∧ Ps = [ts t d e S u, R]) := by
  refine Trip.of (m := 25) Tryz.func154 rfl rfl rfl ?_
  intro o Rs
  simp only [List.cons_append, List.nil_append, enumFrom]
  have b1 := bt.np
  have F1 := Proto_spec e mt tab proto (by omega) R
  unfold kindN
  cases hc : protoI tab proto with
  | none =>
    rw [hc] at F1
    simp only [iv] at F1 ⊢
    refine go ?_
    simp
  | some k =>
    obtain ⟨x, hx, _⟩ := find_get hc
    have hk := find_lt hc
    rw [hc] at F1
    simp only [iv, getD_of hx] at F1 ⊢
    refine go ?_
    simp
theorem mob_spec (bw : Bw w) (bt : Bt tab) (R : HProp) [hr : RT R e mt tab] (k : Nat) (y : Mob) (hy : w.mobs[k]? = some y) : Trip Tryz.prog 56 [.pointer (some ⟨t, 0, none⟩), .int .i64 (k : Int)] [ts t d e S u, wl d m w, R] (fun v Ps => v = .agg (mprC (mprOf tab y.proto)).toArray ∧ Ps = [ts t d e S u, wl d m w, R]) := by
  refine Trip.of (m := 35) Tryz.func56 rfl rfl rfl ?_
  intro o Rs
  simp only [List.cons_append, List.nil_append, enumFrom]
  haveI : Plan 1 [9, 13, 16, 20] [0, 1, 2, 3, 4, 5, 6, 7, 8, 9, 10, 11, 12, 13, 14, 15, 16] := ⟨⟩
  have b1 := bt.nm
  have b2 := bw.nm
  have hky := (List.getElem?_eq_some_iff.1 hy).1
  have F1 := Mpr_spec e mt tab y.proto (by omega) R
  unfold mprOf
  cases hc : mprI tab y.proto with
  | none =>
    rw [hc] at F1
    simp only [iv] at F1 ⊢
    refine go ?_
    simp
  | some k =>
    obtain ⟨x, hx, _⟩ := find_get hc
    have hk := find_lt hc
    rw [hc] at F1
    simp only [iv, getD_of hx] at F1 ⊢
    refine go ?_
    simp
theorem load_spec (bw : Bw w) (name : Tx) : Trip Tryz.prog 260 [.pointer (some ⟨t, 0, none⟩), str name] [ts t d e S u, wl d m w] (fun v Ps => v = .int .i64 (loadN w name : Int) ∧ Ps = [ts t d e S u, wl d m w]) := by
  refine Trip.of (m := 20) Tryz.func260 rfl rfl rfl ?_
  intro o Rs
  simp only [List.cons_append, List.nil_append, enumFrom]
  haveI : Plan 1 [8, 15] [0, 1, 2, 3, 4, 7, 8, 9, 10, 11, 5, 6, 12, 13, 14, 15] := ⟨⟩
  have b1 := bw.nt
  have F1 := Of_spec d m w name 2 (by omega) (wl d m w)
  have F2 := Of_spec d m w name 3 (by omega) (wl d m w)
  have l1 : (ofL w name 2).length ≤ 100000 := Nat.le_trans (pos_len _ _) b1
  have l2 : (ofL w name 3).length ≤ 100000 := Nat.le_trans (pos_len _ _) b1
  rw [← ints_len] at l1 l2
  unfold loadN
  rw [← ints_len, ← ints_len]
  refine go ?_
  refine ⟨?_, by simp⟩ <;> intros
  exact congrArg (Value.int .i64) (by omega)
theorem house_spec (bw : Bw w) (lm : Laid m w) (room : Int) : Trip Tryz.prog 121 [.pointer (some ⟨t, 0, none⟩), .int .i64 room] [ts t d e S u, wl d m w] (fun v Ps => v = .int .i64 (iv (houseI w room)) ∧ Ps = [ts t d e S u, wl d m w]) := by
  refine Trip.of (m := 32) Tryz.func121 rfl rfl rfl ?_
  intro o Rs
  simp only [List.cons_append, List.nil_append, enumFrom]
  have b1 := bw.nh
  have zc : w.houses.length = (w.houses.zip m.gs).length := by rw [List.length_zip, lm.2, Nat.min_self]
  unfold houseI
  refine go ?_
  refine ⟨?_, by simp⟩ <;> intros
  refine loop (fun k => k ≤ w.houses.length ∧ (w.houses.take k).findIdx? (fun x => x.room == room) = none) (fun k => [(0, .pointer (some ⟨t, 0, none⟩)), (1, .int .i64 room), (5, .int .i64 (k : Int))]) (fun k => ts t d e S u :: wl d m w :: Rs) (fun k => w.houses.length - k) 0 ⟨Nat.zero_le _, find_zero⟩ fun k ⟨h1, h2⟩ => ?_
  by_cases hk : k < w.houses.length
  · obtain ⟨x, hx⟩ : ∃ x, w.houses[k]? = some x := ⟨_, List.getElem?_eq_getElem hk⟩
    obtain ⟨⟨A, c⟩, hz, _⟩ := zip_get hx lm.2
    refine go ?_
    refine ⟨fun h0 h3 => ?_, fun h0 h3 => ?_, by simp⟩
    · rw [find_hit h2 hx (by simpa using h3)]; rfl
    · exact rnd (k + 1) ⟨hk, find_miss h2 hx (by simpa using h3)⟩ (by omega)
  · refine go ?_
    refine ⟨?_, by simp⟩ <;> intros
    rw [find_end h2 hk]; rfl
theorem slot_spec (bw : Bw w) (bt : Bt tab) (R : HProp) [hr : RT R e mt tab] (k : Nat) (y : Thg) (hy : w.things[k]? = some y) : Trip Tryz.prog 60 [.pointer (some ⟨t, 0, none⟩), .int .i64 (k : Int)] [ts t d e S u, wl d m w, R] (fun v Ps => v = .int .i64 (slotN tab w k) ∧ Ps = [ts t d e S u, wl d m w, R]) := by
  refine Trip.of (m := 35) Tryz.func60 rfl rfl rfl ?_
  intro o Rs
  simp only [List.cons_append, List.nil_append, enumFrom]
  haveI : Plan 1 [9, 13, 16, 20] [0, 1, 2, 3, 4, 5, 6, 7, 8, 9, 10, 11, 12, 13, 14, 15, 16] := ⟨⟩
  have b1 := bt.np
  have b2 := bw.nt
  have hky := (List.getElem?_eq_some_iff.1 hy).1
  have F1 := Proto_spec e mt tab y.proto (by omega) R
  unfold slotN
  rw [getD_of hy]
  cases hc : protoI tab y.proto with
  | none =>
    rw [hc] at F1
    simp only [iv] at F1 ⊢
    refine go ?_
    simp
  | some k =>
    obtain ⟨x, hx, _⟩ := find_get hc
    have hk := find_lt hc
    rw [hc] at F1
    simp only [iv, getD_of hx] at F1 ⊢
    refine go ?_
    simp
end
end Go.Proofs.YtflmbhkjhfmeoaaGreat
