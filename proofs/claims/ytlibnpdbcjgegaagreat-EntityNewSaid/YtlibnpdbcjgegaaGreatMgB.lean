/-
  The program's worlds: small questions.
  The program's worlds: a new one; small questions.
  The program's worlds: a new one may be.
  The program's worlds: a new one of tables that may be, may be.
  The program's worlds: May of a new one; the beginning of layer 16's statements.
  The beginning of layer 16's statements.
-/
import Derived.Test.YtlibnpdbcjgegaaGreatMgA
import Derived.Test.YtlibnpdbcjgegaaGreatWdNewP
import Derived.Test.YtlibnpdbcjgegaaGreatWdBase
import Derived.Test.YtlibnpdbcjgegaaGreatWdKnow
namespace Go.Proofs.YtlibnpdbcjgegaaGreat
open Go.SL
set_option linter.unusedVariables false
set_option linter.unusedSimpArgs false
set_option maxHeartbeats 8000000
set_option maxRecDepth 20000
theorem lev_le (xp : Int) (h1 : xp ≤ 9000000000000000000) : 1 ≤ levelN xp ∧ levelN xp ≤ 90000000000000001 := by
  unfold levelN; split <;> omega
section
variable {P : Program} {n : Nat} {o : Outer} {sr : List Tmp} {ops : Array Oper} {Q : Post} {St : List HProp} {rest : List Oper} {xs : Env} {hs : List HProp}
variable {d : Option Tmp} {ty : TypeId} {pos : String} {af : Array Edge} {α : Type} {En : Enc α} {A : Option Addr} {l : List α} {R : HProp}
/-- The first cell of the first element. -/
theorem W.ldz {t : Nat} {x : Operand} {y : α} {v : Value} [h1 : One P t] (hx : ev xs x = some (.pointer (some ⟨bk A, of A, none⟩))) (hf : FindS hs R En A l) (hy : l[0]? = some y) (hv : (En.f y)[0]? = some v)
    (hns : stbD sr d = false) (hd : fits n d = true) (k : W P n o sr ops Q St rest (put d v xs) hs) : W P n o sr ops Q St (⟨d, .load t x, ty, pos, af, none⟩ :: rest) xs hs :=
  W.ld0 (i := 0) (sz := En.sz) (by rw [Nat.zero_mul]; exact hx) hf rfl hy hv hns hd k
end
theorem LevelP_spec (xp : Int) (h0 : -1000000000000000000 ≤ xp) (h1 : xp ≤ 1000000000000000000) : Trip Tryz.prog 23 [.int .i64 xp] [] (fun v Ps => v = .int .i64 (levelN xp) ∧ Ps = []) := by
  refine Trip.of (m := 7) Tryz.func23 rfl rfl rfl ?_
  intro o Rs
  simp only [List.cons_append, List.nil_append, enumFrom]
  unfold levelN
  by_cases h2 : xp < 0
  · rw [if_pos h2]
    have hm : max xp 0 = 0 := by omega
    refine go ?_
    refine ⟨?_, by simp⟩ <;> intros
    rw [hm]
  · rw [if_neg h2]
    have hm : max xp 0 = xp := by omega
    refine go ?_
    refine ⟨?_, by simp⟩ <;> intros
    rw [hm]
theorem MaxHpP_spec (xp : Int) (h0 : -1000000000000000000 ≤ xp) (h1 : xp ≤ 1000000000000000000) : Trip Tryz.prog 25 [.int .i64 xp] [] (fun v Ps => v = .int .i64 (maxHpN xp) ∧ Ps = []) := by
  refine Trip.of (m := 8) Tryz.func25 rfl rfl rfl ?_
  intro o Rs
  simp only [List.cons_append, List.nil_append, enumFrom]
  have F1 := LevelP_spec xp h0 h1
  have hl := lev_le xp (by omega)
  unfold maxHpN
  generalize levelN xp = l at *
  refine go ?_
  refine ⟨?_, by simp⟩ <;> intros
  exact congrArg (Value.int .i64) (by omega)
theorem StartP_spec (d : Nat) (m : Tay) (t : Tab) (hl : t.rooms.length ≤ 100000) (P : HProp) [hp : RT P d m t] : Trip Tryz.prog 14 [.pointer (some ⟨d, 0, none⟩)] [P] (fun v Ps => v = .int .i64 (startR t) ∧ Ps = [P]) := by
  refine Trip.of (m := 20) Tryz.func14 rfl rfl rfl ?_
  intro o Rs
  simp only [List.cons_append, List.nil_append, enumFrom]
  unfold startR
  cases hr : t.rooms with
  | nil =>
    have hn : t.rooms.length = 0 := by rw [hr]; rfl
    refine go ?_
    simp
  | cons x l =>
    have hn : ¬ t.rooms.length = 0 := by rw [hr]; simp
    have hx : t.rooms[0]? = some x := by rw [hr]; rfl
    have h0 : t.rooms.length = l.length + 1 := by rw [hr]; rfl
    refine go ?_
    refine ⟨?_, by simp⟩ <;> intros
    refine W.ldz (by exact rfl) (.here hp.ro) hx (by exact rfl) rfl rfl ?_
    refine go ?_
    simp
theorem find_zip {α β : Type} (p : α → Bool) : ∀ (l : List α) (r : List β), r.length = l.length → (l.zip r).findIdx? (fun x => p x.1) = l.findIdx? p
  | [], _, _ => by simp
  | a :: l, [], h => by cases h
  | a :: l, b :: r, h => by simp only [List.zip_cons_cons, List.findIdx?_cons, find_zip p l r (by simpa using h)]
theorem CharP_one (x : Chr × PA) (name : Tx) (b : Nat) (R : HProp) : Trip Tryz.prog 88 ([.agg (chrC x.1 x.2).toArray] ++ [.pointer (some ⟨b, 0, none⟩)]) [R, blk b 9 [str name]] (fun v Ps => v = .bool (x.1.name == name) ∧ Ps = [R, blk b 9 [str name]]) := by
  refine Trip.of (m := 8) Tryz.func88 rfl rfl rfl ?_
  intro o Rs
  simp only [List.cons_append, List.nil_append, enumFrom]
  refine go ?_
  simp
theorem CharP_spec (d : Nat) (m : Lay) (w : Wld) (name : Tx) (hl : w.chars.length ≤ 1000000) (lm : Laid m w) (P : HProp) [hp : RW P d m w] : Trip Tryz.prog 31 [.pointer (some ⟨d, 0, none⟩), str name] [P] (fun v Ps => v = .int .i64 (iv (charI w name)) ∧ Ps = [P]) := by
  refine Trip.of (m := 13) Tryz.func31 rfl rfl rfl ?_
  intro o Rs
  simp only [List.cons_append, List.nil_append, enumFrom]
  have zc : w.chars.length = (w.chars.zip m.dn).length := by rw [List.length_zip, lm.1, Nat.min_self]
  refine go ?_
  refine ⟨?_, by simp⟩ <;> intros
  rename_i b
  have F1 := idx_chr (w.chars.zip m.dn) m.chA m.chC (by rw [← zc]; omega) P hp.ch 88 [.pointer (some ⟨b, 0, none⟩)] [P, blk b 9 [str name]] [blk b 9 [str name]] .here (fun x => x.1.name == name) (fun x _ => CharP_one x name b P)
  rw [← zc, find_zip (fun c : Chr => c.name == name) w.chars m.dn lm.1] at F1
  unfold charI
  refine go ?_
  simp
theorem money_yes (n : Int) (h : 0 ≤ n ∧ n ≤ 1099511627776) : Trip Tryz.prog 125 [.int .i64 n] [] (fun v Ps => v = .bool true ∧ Ps = []) := by
  refine Trip.of (m := 9) Tryz.func125 rfl rfl rfl ?_
  intro o Rs
  simp only [List.cons_append, List.nil_append, enumFrom]
  obtain ⟨h1, h2⟩ := h
  refine go ?_
  refine ⟨?_, by simp⟩ <;> intros
  rw [decide_eq_true h2]
theorem room_yes (d : Nat) (m : Tay) (t : Tab) (id : Int) (hl : t.rooms.length ≤ 1000000) (h : ∃ k, roomI t id = some k) (P : HProp) [hp : RT P d m t] : Trip Tryz.prog 60 [.pointer (some ⟨d, 0, none⟩), .int .i64 id] [P] (fun v Ps => v = .bool true ∧ Ps = [P]) := by
  refine Trip.of (m := 14) Tryz.func60 rfl rfl rfl ?_
  intro o Rs
  simp only [List.cons_append, List.nil_append, enumFrom]
  obtain ⟨k, hk⟩ := h
  have F1 := RoomP_spec d m t id hl P
  rw [hk, Option.isSome_some] at F1
  refine go ?_
  simp
end Go.Proofs.YtlibnpdbcjgegaaGreat
namespace Go.Proofs.YtlibnpdbcjgegaaGreat
open Go.SL
set_option linter.unusedVariables false
set_option linter.unusedSimpArgs false
set_option maxHeartbeats 8000000
set_option maxRecDepth 20000
theorem NewP_spec (e : Nat) (mt : Tay) (tab : Tab) (g : Good tab) (lt : TLaid mt tab) (hl : ∀ s ∈ tab.shops, 0 ≤ s.till ∧ s.till ≤ 1099511627776) (R : HProp) [hr : RT R e mt tab] : Trip Tryz.prog 10 [.pointer (some ⟨e, 0, none⟩)] [R] (fun v Ps => ∃ d m, v = .pointer (some ⟨d, 0, none⟩) ∧ Ps = [R, wl d m (newW tab)]) := by
  refine Trip.of (m := 84) Tryz.func10 rfl rfl rfl ?_
  intro o Rs
  simp only [List.cons_append, List.nil_append, enumFrom]
  haveI : Plan 7 [26, 30, 32, 34, 36] [0, 1, 2, 3, 4, 5, 6, 7, 8, 9, 10, 11, 12, 13, 14, 15, 16, 17, 18, 19, 20] := ⟨⟩
  haveI : Plan 13 [63, 65, 67] [0, 1, 2, 3, 4, 5, 6, 7, 8, 9, 10, 11, 12, 13, 14] := ⟨⟩
  haveI : Plan 14 [76, 78, 79] [0, 1, 2, 3, 4, 5, 6, 7, 8, 9] := ⟨⟩
  have F1 := Check_yes e mt tab g lt R
  have b1 : tab.mobs.length ≤ 60 := by have := g.rm.len; rwa [List.length_map] at this
  have b2 : tab.shops.length ≤ 60 := by have := g.rs.len; rwa [List.length_map] at this
  have zs : tab.shops.length = (tab.shops.zip mt.it).length := by rw [List.length_zip, lt.2, Nat.min_self]
  refine go ?_
  refine ⟨?_, by simp⟩ <;> intros
  rename_i o0
  refine C.turn (fun st hst => nest_nil (E := E64) (e := 3) (nest_nil (E := Enc.str) (e := 9) hst)) ?_
  refine loop (σ := Nat × PA) (fun x => x.1 ≤ tab.mobs.length) (fun x => [(0, .pointer (some ⟨e, 0, none⟩)), (3, .pointer (some ⟨o0, 0, none⟩)), (16, .slice mt.moA tab.mobs.length mt.moC), (17, .int .i64 (tab.mobs.length : Int)), (18, .int .i64 (x.1 : Int))])
    (fun x => blk o0 55 [.int .i64 0, .int .i64 ((x.1 : Int) + 1), .int .i64 0, .slice none 0 0, .slice none 0 0, .slice x.2.1 (newM (tab.mobs.take x.1)).length x.2.2, .slice none 0 0, .slice none 0 0, .slice none 0 0] :: sl Em 79 x.2.1 x.2.2 (newM (tab.mobs.take x.1)) :: R :: nest E64 3 [] :: nest Enc.str 9 [] :: Rs) (fun x => tab.mobs.length - x.1) (0, none, 0) (Nat.zero_le _) ?_
  rintro ⟨k, A, c⟩ hk
  simp only at hk ⊢
  by_cases hk2 : k < tab.mobs.length
  · obtain ⟨x, hx⟩ : ∃ x, tab.mobs[k]? = some x := ⟨_, List.getElem?_eq_getElem hk2⟩
    have hst := newM_step hx
    have hln : (newM (tab.mobs.take k)).length ≤ 100000 := by rw [newM_len, List.length_take]; omega
    generalize newM (tab.mobs.take k) = Lk at *
    refine go ?_
    (repeat' (first | exact trivial | apply And.intro | intro _))
    all_goals (rename_i A' c'; exact rnd (k + 1, A', c') hk2 (by simp only; omega) (hh := by simp only; rw [hst, show (((k + 1 : Nat)) : Int) = (k : Int) + 1 from rfl]; (focus ((repeat (first | exact Ent.done | with_reducible exact Ent.same | (apply Ent.take; (first | (focus (with_reducible iterate 40 first | done | exact .here | apply Find.there); done) | (focus (iterate 40 first | done | exact .here | apply Find.there); done))) | (apply Ent.emp (sl_emp _ _)) | apply Ent.drop)); first | done | fail))))
  rw [List.take_of_length_le (by omega)]
  have hk3 : k = tab.mobs.length := by omega
  subst hk3
  have hln : (newM tab.mobs).length = tab.mobs.length := newM_len _
  refine go ?_
  refine ⟨?_, by simp⟩ <;> intros
  refine loop (σ := Nat × PA) (fun x => x.1 ≤ tab.shops.length) (fun x => [(0, .pointer (some ⟨e, 0, none⟩)), (3, .pointer (some ⟨o0, 0, none⟩)), (53, .slice mt.shA tab.shops.length mt.shC), (54, .int .i64 (tab.shops.length : Int)), (55, .int .i64 (x.1 : Int))])
    (fun x => blk o0 55 [.int .i64 0, .int .i64 ((tab.mobs.length : Int) + 1), .int .i64 (newG (tab.shops.take x.1)), .slice none 0 0, .slice none 0 0, .slice A (newM tab.mobs).length c, .slice none 0 0, .slice none 0 0, .slice x.2.1 (newI (tab.shops.take x.1)).length x.2.2] :: sl Ei 83 x.2.1 x.2.2 (newI (tab.shops.take x.1)) :: sl Em 79 A c (newM tab.mobs) :: R :: nest E64 3 [] :: nest Enc.str 9 [] :: Rs) (fun x => tab.shops.length - x.1) (0, none, 0) (Nat.zero_le _) ?_
  rintro ⟨j, A2, c2⟩ hj
  simp only at hj ⊢
  by_cases hj2 : j < tab.shops.length
  · obtain ⟨x, hx⟩ : ∃ x, tab.shops[j]? = some x := ⟨_, List.getElem?_eq_getElem hj2⟩
    obtain ⟨⟨A1, c1⟩, hz1, _⟩ := zip_get hx lt.2
    have hst := newI_step hx
    have hsg := newG_step hx
    have hgl := newG_le hl j hj
    have htl := hl x (List.mem_of_getElem? hx)
    have hln2 : (newI (tab.shops.take j)).length ≤ 100000 := by rw [newI_len, List.length_take]; omega
    generalize newI (tab.shops.take j) = Lk at *
    generalize newG (tab.shops.take j) = G at *
    refine go ?_
    (repeat' (first | exact trivial | apply And.intro | intro _))
    all_goals (rename_i A' c'; exact rnd (j + 1, A', c') hj2 (by simp only; omega) (hh := by simp only; rw [hst, hsg]; (focus ((repeat (first | exact Ent.done | with_reducible exact Ent.same | (apply Ent.take; (first | (focus (with_reducible iterate 40 first | done | exact .here | apply Find.there); done) | (focus (iterate 40 first | done | exact .here | apply Find.there); done))) | (apply Ent.emp (sl_emp _ _)) | apply Ent.drop)); first | done | fail))))
  rw [List.take_of_length_le (by omega)]
  refine go ?_
  refine ⟨?_, by simp⟩ <;> intros
  refine efoldw o0 ⟨none, 0, none, 0, A, c, none, 0, none, 0, A2, c2, [], []⟩ (newW tab) ⟨rfl, rfl⟩ ?_
  exact ret1 ⟨o0, _, rfl, rfl⟩
end Go.Proofs.YtlibnpdbcjgegaaGreat
namespace Go.Proofs.YtlibnpdbcjgegaaGreat
open Go.SL
set_option linter.unusedVariables false
set_option linter.unusedSimpArgs false
set_option maxHeartbeats 8000000
set_option maxRecDepth 20000
instance mapTy64 : MapTy Tryz.prog 157 2 3 := ⟨by kernel_rfl, by kernel_rfl, fun w => by kernel_rfl⟩
instance mapZero64 : Zero Tryz.prog 157 (.map none) := .of (by kernel_rfl)
theorem rises_chr (n : Nat) (h : n = 0) (A : Option Addr) (c : Nat) : Trip Tryz.prog 111 [.slice A n c, .func (.func 112) #[] #[]] [] (fun v Ps => v = .bool true ∧ Ps = []) := by
  refine Trip.of (m := 26) Tryz.func111 rfl rfl rfl ?_
  intro o Rs
  simp only [List.cons_append, List.nil_append, enumFrom]
  haveI : Plan 4 [16, 21, 23] [0, 1, 2, 3, 4, 6, 7, 8, 9, 10, 11, 5, 12, 13] := ⟨⟩
  subst h
  refine go ?_
  refine ⟨?_, by simp⟩ <;> intros
  refine loop (σ := Unit) (fun _ => True) (fun _ => [(0, .slice A 0 c), (5, .int .i64 1)]) (fun _ => Rs) (fun _ => 0) () trivial fun _ _ => ?_
  refine go ?_
  simp
theorem rises_thg (n : Nat) (h : n = 0) (A : Option Addr) (c : Nat) : Trip Tryz.prog 113 [.slice A n c, .func (.func 114) #[] #[]] [] (fun v Ps => v = .bool true ∧ Ps = []) := by
  refine Trip.of (m := 26) Tryz.func113 rfl rfl rfl ?_
  intro o Rs
  simp only [List.cons_append, List.nil_append, enumFrom]
  haveI : Plan 4 [16, 21, 23] [0, 1, 2, 3, 4, 6, 7, 8, 9, 10, 11, 5, 12, 13] := ⟨⟩
  subst h
  refine go ?_
  refine ⟨?_, by simp⟩ <;> intros
  refine loop (σ := Unit) (fun _ => True) (fun _ => [(0, .slice A 0 c), (5, .int .i64 1)]) (fun _ => Rs) (fun _ => 0) () trivial fun _ _ => ?_
  refine go ?_
  simp
theorem rises_hse (n : Nat) (h : n = 0) (A : Option Addr) (c : Nat) : Trip Tryz.prog 117 [.slice A n c, .func (.func 118) #[] #[]] [] (fun v Ps => v = .bool true ∧ Ps = []) := by
  refine Trip.of (m := 26) Tryz.func117 rfl rfl rfl ?_
  intro o Rs
  simp only [List.cons_append, List.nil_append, enumFrom]
  haveI : Plan 4 [16, 21, 23] [0, 1, 2, 3, 4, 6, 7, 8, 9, 10, 11, 5, 12, 13] := ⟨⟩
  subst h
  refine go ?_
  refine ⟨?_, by simp⟩ <;> intros
  refine loop (σ := Unit) (fun _ => True) (fun _ => [(0, .slice A 0 c), (5, .int .i64 1)]) (fun _ => Rs) (fun _ => 0) () trivial fun _ _ => ?_
  refine go ?_
  simp
theorem rises_lot (n : Nat) (h : n = 0) (A : Option Addr) (c : Nat) : Trip Tryz.prog 119 [.slice A n c, .func (.func 120) #[] #[]] [] (fun v Ps => v = .bool true ∧ Ps = []) := by
  refine Trip.of (m := 26) Tryz.func119 rfl rfl rfl ?_
  intro o Rs
  simp only [List.cons_append, List.nil_append, enumFrom]
  haveI : Plan 4 [16, 21, 23] [0, 1, 2, 3, 4, 6, 7, 8, 9, 10, 11, 5, 12, 13] := ⟨⟩
  subst h
  refine go ?_
  refine ⟨?_, by simp⟩ <;> intros
  refine loop (σ := Unit) (fun _ => True) (fun _ => [(0, .slice A 0 c), (5, .int .i64 1)]) (fun _ => Rs) (fun _ => 0) () trivial fun _ _ => ?_
  refine go ?_
  simp
theorem kid_mob (x : Mob) : Trip Tryz.prog 116 [.agg (mobC x).toArray] [] (fun v Ps => v = .int .i64 (x.id) ∧ Ps = []) := by
  refine Trip.of (m := 5) Tryz.func116 rfl rfl rfl ?_
  intro o Rs
  simp only [List.cons_append, List.nil_append, enumFrom]
  refine go ?_
  simp
theorem rises_mob (l : List (Mob)) (A : Option Addr) (c : Nat) (hl : l.length ≤ 1000000) (h : ∀ (k : Nat) (x y : Mob), l[k]? = some x → l[k + 1]? = some y → (fun x : Mob => x.id) x < (fun x : Mob => x.id) y) (P : HProp) (hP : Reads P (Em) A l) :
    Trip Tryz.prog 115 [.slice A l.length c, .func (.func 116) #[] #[]] [P] (fun v Ps => v = .bool true ∧ Ps = [P]) := by
  refine Trip.of (m := 26) Tryz.func115 rfl rfl rfl ?_
  intro o Rs
  simp only [List.cons_append, List.nil_append, enumFrom]
  haveI : Plan 4 [16, 21, 23] [0, 1, 2, 3, 4, 6, 7, 8, 9, 10, 11, 5, 12, 13] := ⟨⟩
  refine go ?_
  refine ⟨?_, by simp⟩ <;> intros
  refine loop (σ := Nat) (fun k => 1 ≤ k ∧ k ≤ l.length + 1) (fun k => [(0, .slice A l.length c), (1, .func (.func 116) #[] #[]), (5, .int .i64 (k : Int))]) (fun k => P :: Rs) (fun k => l.length + 1 - k) 1 ⟨Nat.le_refl _, by omega⟩ fun k ⟨h1, h2⟩ => ?_
  by_cases hk : k < l.length
  · obtain ⟨x, hx⟩ : ∃ x, l[k]? = some x := ⟨_, List.getElem?_eq_getElem hk⟩
    obtain ⟨y, hy⟩ : ∃ y, l[k - 1]? = some y := ⟨_, List.getElem?_eq_getElem (by omega)⟩
    have hlt := h (k - 1) y x hy (by rw [show k - 1 + 1 = k from by omega]; exact hx)
    have hy2 : l[((k : Int) - 1).toNat]? = some y := by rw [show ((k : Int) - 1).toNat = k - 1 from by omega]; exact hy
    have F1 := kid_mob x
    have F2 := kid_mob y
    simp only at hlt
    refine go ?_
    (repeat' (first | exact trivial | apply And.intro | intro _))
    all_goals first
      | (exfalso; omega)
      | exact rnd (k + 1) ⟨by omega, by omega⟩ (by omega)
  · refine go ?_
    simp
theorem kid_til (x : Till) : Trip Tryz.prog 122 [.agg (tillC x).toArray] [] (fun v Ps => v = .int .i64 (x.room) ∧ Ps = []) := by
  refine Trip.of (m := 5) Tryz.func122 rfl rfl rfl ?_
  intro o Rs
  simp only [List.cons_append, List.nil_append, enumFrom]
  refine go ?_
  simp
theorem rises_til (l : List (Till)) (A : Option Addr) (c : Nat) (hl : l.length ≤ 1000000) (h : ∀ (k : Nat) (x y : Till), l[k]? = some x → l[k + 1]? = some y → (fun x : Till => x.room) x < (fun x : Till => x.room) y) (P : HProp) (hP : Reads P (Ei) A l) :
    Trip Tryz.prog 121 [.slice A l.length c, .func (.func 122) #[] #[]] [P] (fun v Ps => v = .bool true ∧ Ps = [P]) := by
  refine Trip.of (m := 26) Tryz.func121 rfl rfl rfl ?_
  intro o Rs
  simp only [List.cons_append, List.nil_append, enumFrom]
  haveI : Plan 4 [16, 21, 23] [0, 1, 2, 3, 4, 6, 7, 8, 9, 10, 11, 5, 12, 13] := ⟨⟩
  refine go ?_
  refine ⟨?_, by simp⟩ <;> intros
  refine loop (σ := Nat) (fun k => 1 ≤ k ∧ k ≤ l.length + 1) (fun k => [(0, .slice A l.length c), (1, .func (.func 122) #[] #[]), (5, .int .i64 (k : Int))]) (fun k => P :: Rs) (fun k => l.length + 1 - k) 1 ⟨Nat.le_refl _, by omega⟩ fun k ⟨h1, h2⟩ => ?_
  by_cases hk : k < l.length
  · obtain ⟨x, hx⟩ : ∃ x, l[k]? = some x := ⟨_, List.getElem?_eq_getElem hk⟩
    obtain ⟨y, hy⟩ : ∃ y, l[k - 1]? = some y := ⟨_, List.getElem?_eq_getElem (by omega)⟩
    have hlt := h (k - 1) y x hy (by rw [show k - 1 + 1 = k from by omega]; exact hx)
    have hy2 : l[((k : Int) - 1).toNat]? = some y := by rw [show ((k : Int) - 1).toNat = k - 1 from by omega]; exact hy
    have F1 := kid_til x
    have F2 := kid_til y
    simp only at hlt
    refine go ?_
    (repeat' (first | exact trivial | apply And.intro | intro _))
    all_goals first
      | (exfalso; omega)
      | exact rnd (k + 1) ⟨by omega, by omega⟩ (by omega)
  · refine go ?_
    simp
@[reducible] def seenP (o1 o3 o4 bm d : Nat) (l : List (Int × Int)) (P : HProp) (T : List HProp) : List HProp := blk o1 29 [.pointer (some ⟨d, 0, none⟩)] :: blk o3 157 [.map (some bm)] :: blk o4 4 [.bool true] :: mp bm l :: P :: T
theorem seen_yes (d : Nat) (m : Lay) (w : Wld) (P : HProp) [hp : RW P d m w] (o1 o3 o4 bm : Nat) (l : List (Int × Int)) (id : Int) (h0 : 0 < id) (hn : id < w.next) (hm : Miss l id) :
    Trip Tryz.prog 110 [.int .i64 id, .pointer (some ⟨o3, 0, none⟩), .pointer (some ⟨o4, 0, none⟩), .pointer (some ⟨o1, 0, none⟩)] (seenP o1 o3 o4 bm d l P []) (fun v Ps => v = .tuple #[] ∧ Ps = seenP o1 o3 o4 bm d (l ++ [(id, 1)]) P []) := by
  refine Trip.of (m := 28) Tryz.func110 rfl rfl rfl ?_
  intro o Rs
  simp only [List.cons_append, List.nil_append, enumFrom]
  refine go ?_
  refine ⟨?_, by simp⟩ <;> intros
  exact ret0 ⟨rfl, rfl⟩
/-- A world that is new: mobiles and tills alone. -/
structure Fresh (w : Wld) : Prop where
  c0 : w.chars.length = 0
  t0 : w.things.length = 0
  h0 : w.houses.length = 0
  l0 : w.lots.length = 0
  nx : w.next = (w.mobs.length : Int) + 1
  ml : w.mobs.length ≤ 60
  mi : ∀ (k : Nat) (x : Mob), w.mobs[k]? = some x → x.id = (k : Int) + 1
  tl : w.tills.length ≤ 60
  ti : ∀ (k : Nat) (x y : Till), w.tills[k]? = some x → w.tills[k + 1]? = some y → x.room < y.room
theorem miss_ids {l : List Mob} (mi : ∀ (k : Nat) (x : Mob), l[k]? = some x → x.id = (k : Int) + 1) (k : Nat) : Miss ((l.take k).map fun m => (m.id, (1 : Int))) ((k : Int) + 1) := by
  intro p hp
  obtain ⟨x, hx, rfl⟩ := List.mem_map.1 hp
  obtain ⟨j, hj, hx⟩ := List.getElem_of_mem hx
  rw [List.length_take] at hj
  have := mi j x (by rw [← hx, List.getElem_take]; exact List.getElem?_eq_getElem (by omega))
  simp only; omega
theorem lists_yes (d : Nat) (m : Lay) (w : Wld) (f : Fresh w) (P : HProp) [hp : RW P d m w] : Trip Tryz.prog 52 [.pointer (some ⟨d, 0, none⟩)] [P] (fun v Ps => v = .bool true ∧ Ps = [P]) := by
  refine Trip.of (m := 123) Tryz.func52 rfl rfl rfl ?_
  intro o Rs
  simp only [List.cons_append, List.nil_append, enumFrom]
  have c0 := f.c0
  have t0 := f.t0
  have h0 := f.h0
  have l0 := f.l0
  have ml := f.ml
  have tl := f.tl
  have nx := f.nx
  refine go ?_
  refine ⟨?_, by simp⟩ <;> intros
  rename_i o1 bm o3 o4
  refine loop (σ := Unit) (fun _ => True) (fun _ => [(1, .pointer (some ⟨o1, 0, none⟩)), (3, .pointer (some ⟨o3, 0, none⟩)), (4, .pointer (some ⟨o4, 0, none⟩)), (5, .func (.func 110) #[] #[.pointer (some ⟨o3, 0, none⟩), .pointer (some ⟨o4, 0, none⟩), .pointer (some ⟨o1, 0, none⟩)]), (18, .int .i64 (w.things.length : Int)), (19, .int .i64 0)]) (fun _ => seenP o1 o3 o4 bm d [] P Rs) (fun _ => 0) () trivial fun _ _ => ?_
  simp only [seenP, List.cons_append, List.nil_append]
  refine go ?_
  refine ⟨?_, by simp⟩ <;> intros
  refine loop (σ := Nat) (fun k => k ≤ w.mobs.length) (fun k => [(1, .pointer (some ⟨o1, 0, none⟩)), (3, .pointer (some ⟨o3, 0, none⟩)), (4, .pointer (some ⟨o4, 0, none⟩)), (5, .func (.func 110) #[] #[.pointer (some ⟨o3, 0, none⟩), .pointer (some ⟨o4, 0, none⟩), .pointer (some ⟨o1, 0, none⟩)]), (31, .slice m.moA w.mobs.length m.moC), (32, .int .i64 (w.mobs.length : Int)), (33, .int .i64 (k : Int))]) (fun k => seenP o1 o3 o4 bm d ((w.mobs.take k).map fun m => (m.id, (1 : Int))) P Rs) (fun k => w.mobs.length - k) 0 (Nat.zero_le _) fun k h1 => ?_
  by_cases hk : k < w.mobs.length
  · obtain ⟨x, hx⟩ : ∃ x, w.mobs[k]? = some x := ⟨_, List.getElem?_eq_getElem hk⟩
    have hid := f.mi k x hx
    have hmi := miss_ids f.mi k
    rw [← hid] at hmi
    have F1 := seen_yes d m w P o1 o3 o4 bm ((w.mobs.take k).map fun m => (m.id, (1 : Int))) x.id (by omega) (by omega) hmi
    have hst : (w.mobs.take (k + 1)).map (fun m => (m.id, (1 : Int))) = (w.mobs.take k).map (fun m => (m.id, (1 : Int))) ++ [(x.id, 1)] := by rw [List.take_add_one, hx]; simp
    generalize (w.mobs.take k).map (fun m => (m.id, (1 : Int))) = L at *
    simp only [seenP, List.cons_append, List.nil_append] at F1 ⊢
    refine go ?_
    refine ⟨?_, by simp⟩ <;> intros
    exact rnd (k + 1) hk (by omega) (hh := by simp only [hst, seenP, List.cons_append, List.nil_append]; (focus ((repeat (first | exact Ent.done | with_reducible exact Ent.same | (apply Ent.take; (first | (focus (with_reducible iterate 40 first | done | exact .here | apply Find.there); done) | (focus (iterate 40 first | done | exact .here | apply Find.there); done))) | (apply Ent.emp (sl_emp _ _)) | apply Ent.drop)); first | done | fail)))
  generalize (w.mobs.take k).map (fun m => (m.id, (1 : Int))) = L
  simp only [seenP, List.cons_append, List.nil_append]
  refine go ?_
  refine ⟨?_, by simp⟩ <;> intros
  refine loop (σ := Unit) (fun _ => True) (fun _ => [(1, .pointer (some ⟨o1, 0, none⟩)), (4, .pointer (some ⟨o4, 0, none⟩)), (46, .int .i64 (w.lots.length : Int)), (47, .int .i64 0)]) (fun _ => blk o1 29 [.pointer (some ⟨d, 0, none⟩)] :: blk o4 4 [.bool true] :: P :: Rs) (fun _ => 0) () trivial fun _ _ => ?_
  have F1 := rises_chr w.chars.length c0 m.chA m.chC
  have F2 := rises_thg w.things.length t0 m.thA m.thC
  have F3 := rises_mob w.mobs m.moA m.moC (by omega) (fun k x y h1 h2 => by have := f.mi _ _ h1; have := f.mi _ _ h2; simp only; omega) P hp.mo
  have F4 := rises_hse w.houses.length h0 m.hoA m.hoC
  have F5 := rises_lot w.lots.length l0 m.loA m.loC
  have F6 := rises_til w.tills m.tiA m.tiC (by omega) f.ti P hp.ti
  refine go ?_
  simp
theorem tills_one (x : Till) (y : Shp × PA) (h : x.room = y.1.room) (hg : 0 ≤ x.gold ∧ x.gold ≤ 1099511627776) : Trip Tryz.prog 124 [.agg (tillC x).toArray, .agg (shpC y.1 y.2).toArray] [] (fun v Ps => v = .bool true ∧ Ps = []) := by
  refine Trip.of (m := 15) Tryz.func124 rfl rfl rfl ?_
  intro o Rs
  simp only [List.cons_append, List.nil_append, enumFrom]
  have F1 := money_yes x.gold hg
  refine go ?_
  simp
theorem eqtills_yes (a : List Till) (b : List (Shp × PA)) (hl : a.length = b.length) (h1 : a.length ≤ 1000) (h : ∀ (k : Nat) (x : Till) (y : Shp × PA), a[k]? = some x → b[k]? = some y → x.room = y.1.room ∧ 0 ≤ x.gold ∧ x.gold ≤ 1099511627776) (A B : Option Addr) (c e : Nat) (P Q : HProp) (hP : Reads P Ei A a) (hQ : Reads Q Xs B b) :
    Trip Tryz.prog 123 [.slice A a.length c, .slice B b.length e, .func (.func 124) #[] #[]] [P, Q] (fun v Ps => v = .bool true ∧ Ps = [P, Q]) := by
  refine Trip.of (m := 32) Tryz.func123 rfl rfl rfl ?_
  intro o Rs
  simp only [List.cons_append, List.nil_append, enumFrom]
  refine go ?_
  refine ⟨?_, by simp⟩ <;> intros
  refine loop (fun k => k ≤ a.length) (fun k => [(0, .slice A a.length c), (1, .slice B b.length e), (2, .func (.func 124) #[] #[]), (15, .slice A a.length c), (16, .int .i64 (a.length : Int)), (17, .int .i64 (k : Int))]) (fun k => P :: Q :: Rs) (fun k => a.length - k) 0 (Nat.zero_le _) fun k h1 => ?_
  by_cases hk : k < a.length
  · obtain ⟨x, hx⟩ : ∃ x, a[k]? = some x := ⟨_, List.getElem?_eq_getElem hk⟩
    obtain ⟨y, hy⟩ : ∃ y, b[k]? = some y := ⟨_, List.getElem?_eq_getElem (by omega)⟩
    obtain ⟨h2, h3⟩ := h k x y hx hy
    have F1 := tills_one x y h2 h3
    refine go ?_
    refine ⟨?_, by simp⟩ <;> intros
    exact rnd (k + 1) hk (by omega)
  · refine go ?_
    simp
theorem tills_yes (d e : Nat) (m : Lay) (w : Wld) (mt : Tay) (t : Tab) (lt : TLaid mt t) (hl : w.tills.length = t.shops.length) (h1 : w.tills.length ≤ 1000) (h : ∀ (k : Nat) (x : Till) (y : Shp), w.tills[k]? = some x → t.shops[k]? = some y → x.room = y.room ∧ 0 ≤ x.gold ∧ x.gold ≤ 1099511627776) (P R : HProp) [hp : RW P d m w] [hr : RT R e mt t] :
    Trip Tryz.prog 53 [.pointer (some ⟨d, 0, none⟩), .pointer (some ⟨e, 0, none⟩)] [P, R] (fun v Ps => v = .bool true ∧ Ps = [P, R]) := by
  refine Trip.of (m := 14) Tryz.func53 rfl rfl rfl ?_
  intro o Rs
  simp only [List.cons_append, List.nil_append, enumFrom]
  haveI : Plan 1 [8, 12] [0, 1, 2, 3, 4, 5, 6, 7, 8, 9] := ⟨⟩
  have zs : t.shops.length = (t.shops.zip mt.it).length := by rw [List.length_zip, lt.2, Nat.min_self]
  have F1 := eqtills_yes w.tills (t.shops.zip mt.it) (by omega) h1 (fun k x y hx hy => h k x y.1 hx (by
    have := List.getElem?_zip_eq_some.1 hy
    exact this.1)) m.tiA mt.shA m.tiC mt.shC P R hp.ti hr.sh
  rw [← zs] at F1
  refine go ?_
  simp
end Go.Proofs.YtlibnpdbcjgegaaGreat
namespace Go.Proofs.YtlibnpdbcjgegaaGreat
open Go.SL
set_option linter.unusedVariables false
set_option linter.unusedSimpArgs false
set_option maxHeartbeats 8000000
set_option maxRecDepth 20000
theorem ri_lt {l : List Int} {most : Nat} (h : Ri l most) : ∀ (j i : Nat) (x y : Int), i < j → l[i]? = some x → l[j]? = some y → x < y
  | 0, i, x, y, hij, _, _ => by omega
  | j + 1, i, x, y, hij, hx, hy => by
    have hlt := (List.getElem?_eq_some_iff.1 hy).1
    obtain ⟨z, hz⟩ : ∃ z, l[j]? = some z := ⟨_, List.getElem?_eq_getElem (by omega)⟩
    have h1 := h.up j z y hz hy
    by_cases e : i = j
    · subst e; rw [hx] at hz; cases hz; exact h1
    · have := ri_lt h j i x z (by omega) hx hz; omega
theorem ri_find {α : Type} {f : α → Int} {l : List α} {most : Nat} (h : Ri (l.map f) most) {k : Nat} {x : α} (hx : l[k]? = some x) : l.findIdx? (fun y => f y == f x) = some k := by
  have hk := (List.getElem?_eq_some_iff.1 hx).1
  refine find_hit ?_ hx (by simp)
  rw [List.findIdx?_eq_none_iff]
  intro y hy
  obtain ⟨i, hi, rfl⟩ := List.getElem_of_mem hy
  rw [List.length_take] at hi
  have := ri_lt h k i (f l[i]) (f x) (by omega) (by rw [List.getElem?_map, List.getElem?_eq_getElem (by omega)]; rfl) (by rw [List.getElem?_map, hx]; rfl)
  rw [List.getElem_take]
  simp; omega
theorem newM_get {l : List Mpr} {k : Nat} {x : Mob} (h : (newM l)[k]? = some x) : ∃ q, l[k]? = some q ∧ x = ⟨(k : Int) + 1, q.id, q.home, q.hp⟩ := by
  unfold newM at h
  rw [List.getElem?_map, List.getElem?_zipIdx] at h
  cases hq : l[k]? with
  | none => rw [hq] at h; cases h
  | some q =>
    rw [hq] at h
    simp only [Option.map_some, Option.some.injEq] at h
    refine ⟨q, rfl, ?_⟩
    rw [← h]; simp
theorem newI_get {l : List Shp} {k : Nat} {x : Till} (h : (newI l)[k]? = some x) : ∃ s, l[k]? = some s ∧ x = ⟨s.room, s.till⟩ := by
  unfold newI at h
  rw [List.getElem?_map] at h
  cases hq : l[k]? with
  | none => rw [hq] at h; cases h
  | some q => rw [hq] at h; cases h; exact ⟨q, rfl, rfl⟩
theorem fresh_new {t : Tab} (g : Good t) : Fresh (newW t) where
  c0 := rfl
  t0 := rfl
  h0 := rfl
  l0 := rfl
  nx := by show ((t.mobs.length : Int) + 1) = ((newM t.mobs).length : Int) + 1; rw [newM_len]
  ml := by show (newM t.mobs).length ≤ 60; rw [newM_len]; have := g.rm.len; rwa [List.length_map] at this
  mi k x h := by obtain ⟨q, _, rfl⟩ := newM_get h; rfl
  tl := by show (newI t.shops).length ≤ 60; rw [newI_len]; have := g.rs.len; rwa [List.length_map] at this
  ti k x y h1 h2 := by
    obtain ⟨a, ha, rfl⟩ := newI_get h1
    obtain ⟨b, hb, rfl⟩ := newI_get h2
    exact g.rs.up k a.room b.room (by rw [List.getElem?_map, ha]; rfl) (by rw [List.getElem?_map, hb]; rfl)
theorem mob_yes (e : Nat) (mt : Tay) (t : Tab) (g : Good t) (R : HProp) [hr : RT R e mt t] (o3 : Nat) (P : HProp) (x : Mob) (k : Nat) (q : Mpr) (hq : t.mobs[k]? = some q) (hx : x = ⟨(k : Int) + 1, q.id, q.home, q.hp⟩) :
    Trip Tryz.prog 58 ([.agg (mobC x).toArray] ++ [.pointer (some ⟨o3, 0, none⟩)]) [P, blk o3 23 [.pointer (some ⟨e, 0, none⟩)], R] (fun v Ps => v = .bool true ∧ Ps = [P, blk o3 23 [.pointer (some ⟨e, 0, none⟩)], R]) := by
  refine Trip.of (m := 32) Tryz.func58 rfl rfl rfl ?_
  intro o Rs
  simp only [List.cons_append, List.nil_append, enumFrom]
  have b1 : t.rooms.length ≤ 60 := by have := g.rr.len; rwa [List.length_map] at this
  have b3 : t.mobs.length ≤ 60 := by have := g.rm.len; rwa [List.length_map] at this
  have hok := g.mo q (List.mem_of_getElem? hq)
  have hhp := hok.hp
  have hfi : mprI t q.id = some k := ri_find g.rm hq
  have F1 := MobP_spec e mt t q.id (by omega) R
  rw [show mprD t q.id = q from by rw [mprD, hfi]; exact getD_of hq, hfi, Option.isSome_some] at F1
  have F2 := room_yes e mt t q.home (by omega) hok.ho R
  subst hx
  refine go ?_
  simp
def tsum (l : List Till) : Int := (l.map (·.gold)).foldl (· + ·) 0
theorem tsum_step {l : List Till} {k : Nat} {x : Till} (h : l[k]? = some x) : tsum (l.take (k + 1)) = tsum (l.take k) + x.gold := by
  rw [tsum, map_stp _ h, List.foldl_append]; rfl
theorem tsum_le {l : List Till} (hl : ∀ s ∈ l, 0 ≤ s.gold ∧ s.gold ≤ 1099511627776) : ∀ (k : Nat), k ≤ l.length → 0 ≤ tsum (l.take k) ∧ tsum (l.take k) ≤ 1099511627776 * k
  | 0, _ => by simp [tsum]
  | k + 1, hk => by
    have h1 := tsum_le hl k (by omega)
    have h2 := hl l[k] (List.getElem_mem (by omega))
    rw [tsum_step (List.getElem?_eq_getElem (by omega))]; omega
theorem Total_new (d : Nat) (m : Lay) (w : Wld) (f : Fresh w) (hg : ∀ x ∈ w.tills, 0 ≤ x.gold ∧ x.gold ≤ 1099511627776) (P : HProp) [hp : RW P d m w] : Trip Tryz.prog 151 [.pointer (some ⟨d, 0, none⟩)] [P] (fun v Ps => v = .int .i64 (tsum w.tills) ∧ Ps = [P]) := by
  refine Trip.of (m := 74) Tryz.func151 rfl rfl rfl ?_
  intro o Rs
  simp only [List.cons_append, List.nil_append, enumFrom]
  have c0 := f.c0
  have h0 := f.h0
  have l0 := f.l0
  have tl := f.tl
  refine go ?_
  refine ⟨?_, by simp⟩ <;> intros
  refine loop (σ := Unit) (fun _ => True) (fun _ => [(0, .pointer (some ⟨d, 0, none⟩)), (3, .int .i64 0), (18, .int .i64 (w.chars.length : Int)), (19, .int .i64 0)]) (fun _ => P :: Rs) (fun _ => 0) () trivial fun _ _ => ?_
  refine go ?_
  refine ⟨?_, by simp⟩ <;> intros
  refine loop (σ := Nat) (fun k => k ≤ w.tills.length) (fun k => [(0, .pointer (some ⟨d, 0, none⟩)), (3, .int .i64 (tsum (w.tills.take k))), (34, .slice m.tiA w.tills.length m.tiC), (35, .int .i64 (w.tills.length : Int)), (36, .int .i64 (k : Int))]) (fun k => P :: Rs) (fun k => w.tills.length - k) 0 (Nat.zero_le _) fun k h1 => ?_
  by_cases hk : k < w.tills.length
  · obtain ⟨x, hx⟩ : ∃ x, w.tills[k]? = some x := ⟨_, List.getElem?_eq_getElem hk⟩
    have hst := tsum_step hx
    have hle := tsum_le hg k h1
    have hxg := hg x (List.mem_of_getElem? hx)
    generalize tsum (w.tills.take k) = z at *
    refine go ?_
    refine ⟨?_, by simp⟩ <;> intros
    exact rnd (k + 1) hk (by omega) (hx := by simp only [hst]; (repeat (first | exact trivial | refine And.intro rfl ?_ | fail)))
  rw [List.take_of_length_le (by omega)]
  have hle := tsum_le hg w.tills.length (Nat.le_refl _)
  rw [List.take_of_length_le (Nat.le_refl _)] at hle
  generalize tsum w.tills = z at *
  refine go ?_
  refine ⟨?_, by simp⟩ <;> intros
  refine loop (σ := Unit) (fun _ => True) (fun _ => [(0, .pointer (some ⟨d, 0, none⟩)), (3, .int .i64 z), (49, .int .i64 (w.houses.length : Int)), (50, .int .i64 0)]) (fun _ => P :: Rs) (fun _ => 0) () trivial fun _ _ => ?_
  refine go ?_
  refine ⟨?_, by simp⟩ <;> intros
  refine loop (σ := Unit) (fun _ => True) (fun _ => [(3, .int .i64 z), (63, .int .i64 (w.lots.length : Int)), (64, .int .i64 0)]) (fun _ => P :: Rs) (fun _ => 0) () trivial fun _ _ => ?_
  refine go ?_
  simp
theorem total_new (d : Nat) (m : Lay) (w : Wld) (f : Fresh w) (hg : ∀ x ∈ w.tills, 0 ≤ x.gold ∧ x.gold ≤ 1099511627776) (P : HProp) [hp : RW P d m w] : Trip Tryz.prog 70 [.pointer (some ⟨d, 0, none⟩)] [P] (fun v Ps => v = .int .i64 (tsum w.tills) ∧ Ps = [P]) := by
  refine Trip.of (m := 5) Tryz.func70 rfl rfl rfl ?_
  intro o Rs
  simp only [List.cons_append, List.nil_append, enumFrom]
  have F1 := Total_new d m w f hg P
  refine go ?_
  simp
end Go.Proofs.YtlibnpdbcjgegaaGreat
namespace Go.Proofs.YtlibnpdbcjgegaaGreat
open Go.SL
set_option linter.unusedVariables false
set_option linter.unusedSimpArgs false
set_option maxHeartbeats 8000000
set_option maxRecDepth 20000
theorem all_true {α : Type} (l : List α) : (l.all fun _ => true) = true := by simp
theorem May_new (d e : Nat) (m : Lay) (mt : Tay) (t : Tab) (g : Good t) (lt : TLaid mt t) (w : Wld) (hw : w = newW t) (lm : Laid m w) (P R : HProp) [hp : RW P d m w] [hr : RT R e mt t] :
    Trip Tryz.prog 13 [.pointer (some ⟨d, 0, none⟩), .pointer (some ⟨e, 0, none⟩)] [P, R] (fun v Ps => v = .bool true ∧ Ps = [P, R]) := by
  refine Trip.of (m := 98) Tryz.func13 rfl rfl rfl ?_
  intro o Rs
  simp only [List.cons_append, List.nil_append, enumFrom]
  haveI : Plans 3 [51, 54] [5, 12, 20, 28, 36, 40, 41, 44] [[0, 1, 2, 3, 4, 5, 6, 7, 8, 9, 10, 11, 12, 13, 14, 15, 16, 17, 18, 19, 20, 21, 22, 23, 24, 25, 26, 27, 28, 29, 30, 31, 32, 33, 34, 35, 36, 37, 38, 39, 40, 41, 42, 43, 44, 45, 46, 47], [0, 1, 2, 3, 4, 5, 6, 7, 8, 9, 10, 11, 12, 13, 14, 15, 16, 17, 18, 19, 20, 21, 22, 23, 24, 25, 26, 27, 28, 29, 30, 31, 32, 33, 34, 35, 36, 37, 38, 39, 41, 42, 43, 40, 44, 45, 46, 47], [0, 1, 2, 3, 4, 5, 6, 7, 8, 9, 10, 11, 12, 13, 14, 15, 16, 17, 18, 19, 20, 21, 22, 23, 24, 25, 26, 27, 28, 29, 30, 31, 32, 33, 34, 35, 36, 37, 38, 39, 41, 42, 43, 44, 40, 45, 46, 47]] := ⟨⟩
  have f : Fresh w := hw ▸ fresh_new g
  have zc : w.chars.length = (w.chars.zip m.dn).length := by rw [List.length_zip, lm.1, Nat.min_self]
  have zh : w.houses.length = (w.houses.zip m.gs).length := by rw [List.length_zip, lm.2, Nat.min_self]
  have hsl : t.shops.length ≤ 60 := by have := g.rs.len; rwa [List.length_map] at this
  have htl : w.tills.length = t.shops.length := by rw [hw]; exact newI_len _
  have hgs : ∀ x ∈ w.tills, 0 ≤ x.gold ∧ x.gold ≤ 1099511627776 := by
    intro x hx
    rw [hw] at hx
    obtain ⟨s, hs, rfl⟩ := List.mem_map.1 hx
    have := (g.so s hs).ti
    simp only; omega
  have F1 := Check_yes e mt t g lt R
  have F2 := lists_yes d m w f P
  have F3 := tills_yes d e m w mt t lt htl (by omega) (fun k x y hx hy => by
    have hb := hgs x (List.mem_of_getElem? hx)
    rw [hw] at hx
    obtain ⟨s, hs, rfl⟩ := newI_get hx
    rw [hs] at hy; cases hy
    exact ⟨rfl, hb⟩) P R
  have hmt : tsum w.tills = w.minted := by rw [hw]; simp [newW, tsum, newG, newI, List.map_map, Function.comp_def]
  have F9 := total_new d m w f hgs P
  rw [hmt] at F9
  have n0 : w.now = 0 := by rw [hw]; rfl
  have nx := f.nx
  have ml := f.ml
  have c0 := f.c0
  have t0 := f.t0
  have h0 := f.h0
  have l0 := f.l0
  refine C.seq (C.region ?_)
  refine gow ?_
  refine ⟨?_, by simp⟩ <;> intros
  rename_i o2 o3
  have F4 := all_thg w.things m.thA m.thC (by omega) P hp.th 55 [.pointer (some ⟨o2, 0, none⟩), .pointer (some ⟨o3, 0, none⟩)] [P] [] .here (fun _ => true) (fun x hx => by rw [List.length_eq_zero_iff.1 t0] at hx; cases hx)
  have F5 := all_mob w.mobs m.moA m.moC (by omega) P hp.mo 58 [.pointer (some ⟨o3, 0, none⟩)] [P, blk o3 23 [.pointer (some ⟨e, 0, none⟩)], R] [blk o3 23 [.pointer (some ⟨e, 0, none⟩)], R] .here (fun _ => true) (fun x hx => by
    obtain ⟨k, hk, hx⟩ := List.getElem_of_mem hx
    have h2 : (newM t.mobs)[k]? = some x := by
      have := List.getElem?_eq_getElem hk
      rw [hx] at this
      rw [← this, hw]; rfl
    obtain ⟨q, hq, he⟩ := newM_get h2
    exact mob_yes e mt t g R o3 P x k q hq he)
  have F6 := all_chr (w.chars.zip m.dn) m.chA m.chC (by omega) P hp.ch 62 [.pointer (some ⟨o2, 0, none⟩), .pointer (some ⟨o3, 0, none⟩)] [P] [] .here (fun _ => true) (fun x hx => by rw [List.length_eq_zero_iff.1 (zc.symm.trans c0)] at hx; cases hx)
  have F7 := all_hse (w.houses.zip m.gs) m.hoA m.hoC (by omega) P hp.ho 65 [.pointer (some ⟨o2, 0, none⟩), .pointer (some ⟨o3, 0, none⟩)] [P] [] .here (fun _ => true) (fun x hx => by rw [List.length_eq_zero_iff.1 (zh.symm.trans h0)] at hx; cases hx)
  have F8 := all_lot w.lots m.loA m.loC (by omega) P hp.lo 68 [.pointer (some ⟨o2, 0, none⟩)] [P] [] .here (fun _ => true) (fun x hx => by rw [List.length_eq_zero_iff.1 l0] at hx; cases hx)
  rw [all_true] at F4 F5 F6 F7 F8
  rw [← zc] at F6
  rw [← zh] at F7
  refine go ?_
  simp
end Go.Proofs.YtlibnpdbcjgegaaGreat
namespace Go.Proofs.YtlibnpdbcjgegaaGreat
open Go.SL
set_option linter.unusedVariables false
set_option linter.unusedSimpArgs false
set_option maxHeartbeats 8000000
set_option maxRecDepth 20000
theorem ri_of {l : List Int} {most : Nat} (h1 : l.length ≤ most) (h2 : (l.all fun x => decide (1 ≤ x ∧ x ≤ 1000)) = true) (h3 : ((l.zip l.tail).all fun p => decide (p.1 < p.2)) = true) : Ri l most := by
  refine ⟨h1, fun x hx => by simpa using List.all_eq_true.1 h2 x hx, fun k x y hx hy => ?_⟩
  have : (l.zip l.tail)[k]? = some (x, y) := by rw [List.getElem?_zip_eq_some]; exact ⟨hx, by rw [List.getElem?_tail]; exact hy⟩
  simpa using List.all_eq_true.1 h3 _ (List.mem_of_getElem? this)
theorem base_good : Good baseT where
  ne := by decide
  rr := ri_of (by decide) (by decide) (by decide)
  rp := ri_of (by decide) (by decide) (by decide)
  rm := ri_of (by decide) (by decide) (by decide)
  rc := ri_of (by decide) (by decide) (by decide)
  rq := ri_of (by decide) (by decide) (by decide)
  rs := ri_of (by decide) (by decide) (by decide)
  ro := by
    intro r hr
    simp only [baseT, List.mem_cons, List.not_mem_nil, or_false] at hr
    rcases hr with rfl | rfl | rfl | rfl | rfl | rfl | rfl
    all_goals refine ⟨by kernel_rfl, by decide, by decide, fun x hx => ?_⟩
    all_goals simp only [Rm.exits, List.mem_cons, List.not_mem_nil, or_false] at hx
    all_goals rcases hx with rfl | rfl | rfl | rfl | rfl | rfl
    all_goals exact ⟨by decide, by first | exact .inl rfl | exact .inr ⟨_, rfl⟩⟩
  po := by
    intro r hr
    simp only [baseT, List.mem_cons, List.not_mem_nil, or_false] at hr
    rcases hr with rfl | rfl | rfl | rfl | rfl
    all_goals exact ⟨by kernel_rfl, by decide, by decide, by decide⟩
  mo := by
    intro r hr
    simp only [baseT, List.mem_cons, List.not_mem_nil, or_false] at hr
    rcases hr with rfl | rfl
    all_goals exact ⟨by kernel_rfl, by decide, ⟨_, rfl⟩, by decide, by decide, by decide, by decide⟩
  co := by
    intro r hr
    simp only [baseT, List.mem_cons, List.not_mem_nil, or_false] at hr
    subst hr
    refine ⟨⟨_, rfl⟩, by decide, fun k x y hx hy => ?_, fun x hx => ?_⟩
    · have h1 := List.mem_of_getElem? hx
      have h2 := List.mem_of_getElem? hy
      simp at h1 h2; omega
    · simp only [List.mem_cons, List.not_mem_nil, or_false] at hx
      rcases hx with rfl | rfl <;> exact ⟨by decide, ⟨_, rfl⟩⟩
  qo := by
    intro r hr
    simp only [baseT, List.mem_cons, List.not_mem_nil, or_false] at hr
    rcases hr with rfl | rfl
    all_goals exact ⟨⟨by decide, ⟨_, rfl⟩⟩, by decide, by decide, ⟨by decide, by first | exact .inl rfl | exact .inr ⟨_, rfl⟩⟩⟩
  so := by
    intro r hr
    simp only [baseT, List.mem_cons, List.not_mem_nil, or_false] at hr
    subst hr
    refine ⟨⟨_, _, rfl, rfl, rfl⟩, by decide, ri_of (by decide) (by decide) (by decide), fun x hx => ?_⟩
    simp only [List.mem_cons, List.not_mem_nil, or_false] at hx
    rcases hx with rfl | rfl | rfl <;> exact ⟨_, rfl⟩
theorem base_till : ∀ s ∈ baseT.shops, 0 ≤ s.till ∧ s.till ≤ 1099511627776 := by decide
theorem NewBase_spec (e : Nat) (mt : Tay) (lt : TLaid mt baseT) : Trip Tryz.prog 10 [.pointer (some ⟨e, 0, none⟩)] [tb e mt baseT] (fun v Ps => ∃ d m, v = .pointer (some ⟨d, 0, none⟩) ∧ Ps = [tb e mt baseT, wl d m (newW baseT)]) :=
  NewP_spec e mt baseT base_good lt base_till (tb e mt baseT)
theorem begun16_spec : Trip Tryz.prog 6 [] [] (fun v Ps => v = .bool true ∧ Ps = []) := by
  refine Trip.of (m := 51) Tryz.func6 rfl rfl rfl ?_
  intro o Rs
  simp only [List.cons_append, List.nil_append, enumFrom]
  have F1 := Base_spec
  refine go ?_
  refine ⟨?_, by simp⟩ <;> intros
  rename_i e mt
  refine wtb fun lt => ?_
  have F2 := NewBase_spec e mt lt
  have hm2 : (newW baseT).mobs.length = 2 := rfl
  have hn2 : (newW baseT).next = 3 := rfl
  have hg2 : (newW baseT).minted = 50 := by kernel_rfl
  refine go ?_
  refine ⟨?_, by simp⟩ <;> intros
  rename_i d m e2 mt2
  refine wtb (d := e2) (m := mt2) (t := baseT) fun lt2 => ?_
  refine wwl (d := d) (m := m) (t := newW baseT) fun lm => ?_
  have F3 := May_new d e2 m mt2 baseT base_good lt2 (newW baseT) rfl lm (wl d m (newW baseT)) (tb e2 mt2 baseT)
  have F4 := LevelP_spec 250 (by decide) (by decide)
  have F5 := MaxHpP_spec 250 (by decide) (by decide)
  have F6 := CharP_spec d m (newW baseT) [120] (by decide) lm (wl d m (newW baseT))
  rw [show levelN 250 = 3 from rfl] at F4
  rw [show maxHpN 250 = 30 from rfl] at F5
  rw [show iv (charI (newW baseT) [120]) = -1 from rfl] at F6
  refine go ?_
  refine ⟨?_, by simp⟩ <;> intros
  rename_i e3 mt3
  have F7 := StartP_spec e3 mt3 baseT (by decide) (tb e3 mt3 baseT)
  rw [show startR baseT = 1 from rfl] at F7
  refine go ?_
  simp
end Go.Proofs.YtlibnpdbcjgegaaGreat
