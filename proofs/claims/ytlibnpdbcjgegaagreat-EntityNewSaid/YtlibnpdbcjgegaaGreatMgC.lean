/-
  The document's Check of tables: what it answers 0 of, is Good.
  The document's reading of tables: numbers, words, lists that rise.
  The document's reading of a line of a world's file: what memory it needs.
-/
import Derived.Test.YtlibnpdbcjgegaaGreatEnPure
import Derived.Test.YtlibnpdbcjgegaaGreatWdLeaf
import Derived.Test.YtlibnpdbcjgegaaGreatWdKnow
namespace Go.Proofs.YtlibnpdbcjgegaaGreat
open Go.SL
set_option linter.unusedVariables false
set_option linter.unusedSimpArgs false
set_option maxHeartbeats 8000000
set_option maxRecDepth 20000
section
variable {P : Program} {n : Nat} {o : Outer} {sr : List Tmp} {ops : Array Oper} {Q : Post} {St : List HProp} {rest : List Oper} {xs : Env} {hs : List HProp}
variable {d : Option Tmp} {ty : TypeId} {pos : String} {af : Array Edge}
/-- An element's place of an array within a block. -/
theorem W.ixb {t L e sz b q j j' : Nat} {x ix : Operand} {i : Int} {kd : IntKind} [ht : ArrTy P t L e sz] (hx : ev xs x = some (.pointer (some ⟨b, j, none⟩))) (hi : ev xs ix = some (.int kd i)) (h0 : 0 ≤ i) (h1 : i < L) (hq : i.toNat = q) (hj : j + q * sz = j')
    (hns : stbD sr d = false) (hd : fits n d = true) (k : W P n o sr ops Q St rest (put d (.pointer (some ⟨b, j', none⟩)) xs) hs) : W P n o sr ops Q St (⟨d, .indexAddr t x ix, ty, pos, af, none⟩ :: rest) xs hs := by
  refine W.ixe (p := 0) (j := j) (by rw [Nat.zero_add]; exact hx) hi h0 h1 hq hj hns hd (by rw [Nat.zero_add]; exact k)
end
def inB (n a b : Int) : Bool := decide (a ≤ n ∧ n ≤ b)
theorem in_of {n a b : Int} (h : inB n a b = true) : a ≤ n ∧ n ≤ b := by simpa [inB] using h
theorem in13_spec (n a b : Int) : Trip Tryz.prog 105 [.int .i64 n, .int .i64 a, .int .i64 b] [] (fun v Ps => v = .bool (inB n a b) ∧ Ps = []) := by
  refine Trip.of (m := 15) Tryz.func105 rfl rfl rfl ?_
  intro o Rs
  simp only [List.cons_append, List.nil_append, enumFrom]
  unfold inB
  by_cases h1 : a ≤ n
  · by_cases h2 : n ≤ b
    · rw [decide_eq_true ⟨h1, h2⟩]
      refine go ?_
      simp
      all_goals (intros; omega)
    · rw [decide_eq_false (fun h => h2 h.2)]
      refine go ?_
      simp
      all_goals (intros; omega)
  · rw [decide_eq_false (fun h => h1 h.1)]
    refine go ?_
    simp
/-- A row of rooms, as rooms takes it. -/
structure RmRow (l : List Rm) (k : Nat) (r : Rm) : Prop where
  id : 1 ≤ r.id ∧ r.id ≤ 1000
  nm : wordB r.name = true
  kd : 0 ≤ r.kind ∧ r.kind ≤ 5
  pr : 0 ≤ r.price ∧ r.price ≤ 1073741824
  up : ∀ y, 0 < k → l[k - 1]? = some y → y.id < r.id
  ex : ∀ x ∈ r.exits, 0 ≤ x ∧ x ≤ 1000
structure PrRow (l : List Pro) (k : Nat) (p : Pro) : Prop where
  id : 1 ≤ p.id ∧ p.id ≤ 1000
  nm : wordB p.name = true
  sl : 0 ≤ p.slot ∧ p.slot ≤ 2
  pw : 0 ≤ p.power ∧ p.power ≤ 100
  pr : 0 ≤ p.price ∧ p.price ≤ 1073741824
  up : ∀ y, 0 < k → l[k - 1]? = some y → y.id < p.id
structure MoRow (l : List Mpr) (k : Nat) (m : Mpr) : Prop where
  id : 1 ≤ m.id ∧ m.id ≤ 1000
  nm : wordB m.name = true
  ho : 1 ≤ m.home ∧ m.home ≤ 1000
  hp : 1 ≤ m.hp ∧ m.hp ≤ 10000
  pw : 0 ≤ m.power ∧ m.power ≤ 100
  xp : 0 ≤ m.xp ∧ m.xp ≤ 10000
  go : 0 ≤ m.gold ∧ m.gold ≤ 1073741824
  up : ∀ y, 0 < k → l[k - 1]? = some y → y.id < m.id
structure ReRow (l : List Rcp) (k : Nat) (r : Rcp) : Prop where
  id : 1 ≤ r.out ∧ r.out ≤ 1000
  ln : 1 ≤ r.needs.length ∧ r.needs.length ≤ 5
  up : ∀ y, 0 < k → l[k - 1]? = some y → y.out < r.out
  nd : ∀ (j : Nat) (x : Int), r.needs[j]? = some x → (1 ≤ x ∧ x ≤ 1000) ∧ ∀ y, 0 < j → r.needs[j - 1]? = some y → y ≤ x
structure QuRow (l : List Qst) (k : Nat) (q : Qst) : Prop where
  id : 1 ≤ q.id ∧ q.id ≤ 1000
  it : 1 ≤ q.item ∧ q.item ≤ 1000
  ct : 1 ≤ q.count ∧ q.count ≤ 5
  go : 0 ≤ q.gold ∧ q.gold ≤ 1073741824
  re : 0 ≤ q.reward ∧ q.reward ≤ 1000
  up : ∀ y, 0 < k → l[k - 1]? = some y → y.id < q.id
structure ShRow (l : List Shp) (k : Nat) (s : Shp) : Prop where
  id : 1 ≤ s.room ∧ s.room ≤ 1000
  ti : 0 ≤ s.till ∧ s.till ≤ 1073741824
  ln : s.items.length ≤ 8
  up : ∀ y, 0 < k → l[k - 1]? = some y → y.room < s.room
  it : ∀ (j : Nat) (x : Int), s.items[j]? = some x → (1 ≤ x ∧ x ≤ 1000) ∧ ∀ y, 0 < j → s.items[j - 1]? = some y → y < x
/-- The first n rows of a list are fine. -/
def Upto {α : Type} (p : List α → Nat → α → Prop) (l : List α) (n : Nat) : Prop := ∀ k x, k < n → l[k]? = some x → p l k x
theorem upto_zero {α : Type} (p : List α → Nat → α → Prop) (l : List α) : Upto p l 0 := fun k x h => absurd h (by omega)
theorem upto_step {α : Type} {p : List α → Nat → α → Prop} {l : List α} {n : Nat} {x : α} (h : Upto p l n) (hx : l[n]? = some x) (hp : p l n x) : Upto p l (n + 1) := fun k y hk hy => by
  rcases Nat.lt_or_ge k n with h1 | h1
  · exact h k y h1 hy
  · have : k = n := by omega
    subst this; rw [hx] at hy; cases hy; exact hp
/-- What rooms, things, rest and there find. -/
structure Rows (t : Tab) : Prop where
  nr : t.rooms.length ≤ 60
  np : t.protos.length ≤ 60
  nm : t.mobs.length ≤ 60
  nc : t.recipes.length ≤ 60
  nq : t.quests.length ≤ 60
  ns : t.shops.length ≤ 60
  rr : Upto RmRow t.rooms t.rooms.length
  rp : Upto PrRow t.protos t.protos.length
  rm : Upto MoRow t.mobs t.mobs.length
  rc : Upto ReRow t.recipes t.recipes.length
  rq : Upto QuRow t.quests t.quests.length
  rs : Upto ShRow t.shops t.shops.length
structure There (t : Tab) : Prop where
  ro : ∀ r ∈ t.rooms, ∀ x ∈ r.exits, x = 0 ∨ ∃ k, roomI t x = some k
  mo : ∀ m ∈ t.mobs, ∃ k, roomI t m.home = some k
  co : ∀ r ∈ t.recipes, (∃ k, protoI t r.out = some k) ∧ ∀ x ∈ r.needs, ∃ k, protoI t x = some k
  qo : ∀ q ∈ t.quests, (∃ k, protoI t q.item = some k) ∧ (q.reward = 0 ∨ ∃ k, protoI t q.reward = some k)
  so : ∀ s ∈ t.shops, (∃ k r, roomI t s.room = some k ∧ t.rooms[k]? = some r ∧ r.kind = 1) ∧ ∀ x ∈ s.items, ∃ k, protoI t x = some k
theorem ri_rows {α : Type} {l : List α} {f : α → Int} {most : Nat} (hn : l.length ≤ most) (h : ∀ k x, l[k]? = some x → (1 ≤ f x ∧ f x ≤ 1000) ∧ ∀ y, 0 < k → l[k - 1]? = some y → f y < f x) : Ri (l.map f) most where
  len := by rw [List.length_map]; exact hn
  id x hx := by
    obtain ⟨y, hy, rfl⟩ := List.mem_map.1 hx
    obtain ⟨k, hk, rfl⟩ := List.mem_iff_getElem.1 hy
    exact (h k _ (List.getElem?_eq_getElem hk)).1
  up k x y hx hy := by
    rw [List.getElem?_map] at hx hy
    cases ha : l[k]? with
    | none => rw [ha] at hx; cases hx
    | some a =>
      cases hb : l[k + 1]? with
      | none => rw [hb] at hy; cases hy
      | some b =>
        rw [ha] at hx; rw [hb] at hy
        simp only [Option.map_some, Option.some.injEq] at hx hy
        subst hx hy
        exact (h (k + 1) b hb).2 a (by omega) ha
theorem good_of {t : Tab} (ne : 0 < t.rooms.length) (r : Rows t) (h : There t) : Good t where
  ne := ne
  rr := ri_rows r.nr fun k x hx => ⟨(r.rr k x (List.getElem?_eq_some_iff.1 hx).1 hx).id, (r.rr k x (List.getElem?_eq_some_iff.1 hx).1 hx).up⟩
  rp := ri_rows r.np fun k x hx => ⟨(r.rp k x (List.getElem?_eq_some_iff.1 hx).1 hx).id, (r.rp k x (List.getElem?_eq_some_iff.1 hx).1 hx).up⟩
  rm := ri_rows r.nm fun k x hx => ⟨(r.rm k x (List.getElem?_eq_some_iff.1 hx).1 hx).id, (r.rm k x (List.getElem?_eq_some_iff.1 hx).1 hx).up⟩
  rc := ri_rows r.nc fun k x hx => ⟨(r.rc k x (List.getElem?_eq_some_iff.1 hx).1 hx).id, (r.rc k x (List.getElem?_eq_some_iff.1 hx).1 hx).up⟩
  rq := ri_rows r.nq fun k x hx => ⟨(r.rq k x (List.getElem?_eq_some_iff.1 hx).1 hx).id, (r.rq k x (List.getElem?_eq_some_iff.1 hx).1 hx).up⟩
  rs := ri_rows r.ns fun k x hx => ⟨(r.rs k x (List.getElem?_eq_some_iff.1 hx).1 hx).id, (r.rs k x (List.getElem?_eq_some_iff.1 hx).1 hx).up⟩
  ro x hx := by
    obtain ⟨k, hk, rfl⟩ := List.mem_iff_getElem.1 hx
    have g := r.rr k _ hk (List.getElem?_eq_getElem hk)
    exact ⟨g.nm, g.kd, g.pr, fun x hx => ⟨g.ex x hx, h.ro _ (List.getElem_mem hk) x hx⟩⟩
  po x hx := by
    obtain ⟨k, hk, rfl⟩ := List.mem_iff_getElem.1 hx
    have g := r.rp k _ hk (List.getElem?_eq_getElem hk)
    exact ⟨g.nm, g.sl, g.pw, g.pr⟩
  mo x hx := by
    obtain ⟨k, hk, rfl⟩ := List.mem_iff_getElem.1 hx
    have g := r.rm k _ hk (List.getElem?_eq_getElem hk)
    exact ⟨g.nm, g.ho, h.mo _ (List.getElem_mem hk), g.hp, g.pw, g.xp, g.go⟩
  co x hx := by
    obtain ⟨k, hk, rfl⟩ := List.mem_iff_getElem.1 hx
    have g := r.rc k _ hk (List.getElem?_eq_getElem hk)
    have g2 := h.co _ (List.getElem_mem hk)
    refine ⟨g2.1, g.ln, fun j x y hx hy => (g.nd (j + 1) y hy).2 x (by omega) hx, fun x hx => ⟨?_, g2.2 x hx⟩⟩
    obtain ⟨j, hj, rfl⟩ := List.mem_iff_getElem.1 hx
    exact (g.nd j _ (List.getElem?_eq_getElem hj)).1
  qo x hx := by
    obtain ⟨k, hk, rfl⟩ := List.mem_iff_getElem.1 hx
    have g := r.rq k _ hk (List.getElem?_eq_getElem hk)
    have g2 := h.qo _ (List.getElem_mem hk)
    exact ⟨⟨g.it, g2.1⟩, g.ct, g.go, ⟨g.re, g2.2⟩⟩
  so x hx := by
    obtain ⟨k, hk, rfl⟩ := List.mem_iff_getElem.1 hx
    have g := r.rs k _ hk (List.getElem?_eq_getElem hk)
    have g2 := h.so _ (List.getElem_mem hk)
    refine ⟨g2.1, g.ti, ?_, g2.2⟩
    have := ri_rows (f := fun z : Int => z) g.ln g.it
    rwa [List.map_id'] at this
end Go.Proofs.YtlibnpdbcjgegaaGreat
namespace Go.Proofs.YtlibnpdbcjgegaaGreat
open Go.SL
set_option linter.unusedVariables false
set_option linter.unusedSimpArgs false
set_option maxHeartbeats 8000000
set_option maxRecDepth 20000
section
variable {P : Program} {n : Nat} {o : Outer} {sr : List Tmp} {ops : Array Oper} {Q : Post} {St : List HProp} {rest : List Oper} {xs : Env} {hs : List HProp}
theorem efoldt {r : List HProp} {e : Exit} (d : Nat) (m : Tay) (t : Tab) (hl : TLaid m t) (k : E n o Q e xs (tb d m t :: r)) (he : Ent hs [blk d 67 (tabC m t), sl Xr 112 m.roA m.roC t.rooms, sl Xp 133 m.prA m.prC t.protos, sl Xm 77 m.moA m.moC t.mobs, sl Xc 135 m.reA m.reC (t.recipes.zip m.nd),
   sl Xq 137 m.quA m.quC t.quests, sl Xs 81 m.shA m.shC (t.shops.zip m.it), nest E64 3 (ndL t m), nest E64 3 (itL t m)] r := by (focus ((repeat (first | exact Ent.done | with_reducible exact Ent.same | (apply Ent.take; (first | (focus (with_reducible iterate 40 first | done | exact .here | apply Find.there); done) | (focus (iterate 40 first | done | exact .here | apply Find.there); done))) | (apply Ent.emp (sl_emp _ _)) | apply Ent.drop)); first | done | fail))) : E n o Q e xs hs := E.turn (fun st hst => tb_close hl (hst.lift he.lift)) k
theorem cfoldt {r : List HProp} {c : Code} (d : Nat) (m : Tay) (t : Tab) (hl : TLaid m t) (k : C P n o Q c xs (tb d m t :: r)) (he : Ent hs [blk d 67 (tabC m t), sl Xr 112 m.roA m.roC t.rooms, sl Xp 133 m.prA m.prC t.protos, sl Xm 77 m.moA m.moC t.mobs, sl Xc 135 m.reA m.reC (t.recipes.zip m.nd),
   sl Xq 137 m.quA m.quC t.quests, sl Xs 81 m.shA m.shC (t.shops.zip m.it), nest E64 3 (ndL t m), nest E64 3 (itL t m)] r := by (focus ((repeat (first | exact Ent.done | with_reducible exact Ent.same | (apply Ent.take; (first | (focus (with_reducible iterate 40 first | done | exact .here | apply Find.there); done) | (focus (iterate 40 first | done | exact .here | apply Find.there); done))) | (apply Ent.emp (sl_emp _ _)) | apply Ent.drop)); first | done | fail))) : C P n o Q c xs hs := C.turn (fun st hst => tb_close hl (hst.lift he.lift)) k
theorem copent {r : List HProp} {c : Code} {d : Nat} {m : Tay} {t : Tab} (k : TLaid m t → C P n o Q c xs ([blk d 67 (tabC m t), sl Xr 112 m.roA m.roC t.rooms, sl Xp 133 m.prA m.prC t.protos, sl Xm 77 m.moA m.moC t.mobs, sl Xc 135 m.reA m.reC (t.recipes.zip m.nd),
   sl Xq 137 m.quA m.quC t.quests, sl Xs 81 m.shA m.shC (t.shops.zip m.it), nest E64 3 (ndL t m), nest E64 3 (itL t m)] ++ r)) (hf : Find hs (tb d m t) r := by (focus (with_reducible iterate 40 first | done | exact .here | apply Find.there); done)) : C P n o Q c xs hs :=
  ⟨fun a st ha hst => by obtain ⟨h1, h2⟩ := tb_open (hst.lift hf.lift); exact (k h1).run a st ha h2⟩
end
section
variable {P : Program} {n : Nat} {o : Outer} {sr : List Tmp} {ops : Array Oper} {Q : Post} {St : List HProp} {rest : List Oper} {xs : Env} {hs : List HProp}
variable {ty : TypeId} {pos : String} {af : Array Edge}
/-- A number of a slice of its own is written. -/
theorem W.sti {t e p c i : Nat} {x y : Operand} {b u : Int} {A : Option Addr} {l : List Int} {r : List HProp} [h1 : One P t] (hx : ev xs x = some (.pointer (some ⟨bk A, p, none⟩))) (hy : ev xs y = some (.int .i64 b))
    (hf : Find hs (sl E64 e A c l) r) (hp : p = of A + i * 1) (hu : l[i]? = some u)
    (hI : Keep (freeSt sr ops ⟨none, .store t x y, ty, pos, af, none⟩) St (sl E64 e A c (l.set i b) :: r)) (k : W P n o sr ops Q St rest xs (sl E64 e A c (l.set i b) :: r)) :
    W P n o sr ops Q St (⟨none, .store t x y, ty, pos, af, none⟩ :: rest) xs hs :=
  W.st (j := 0) b hx hy rfl hf hp rfl hu rfl rfl hI k
end
def numR (s : Tx) (a b : Int) : Bool := (numM s).2 && inB (numM s).1 a b
theorem num13_spec (s : Tx) (a b : Int) : Trip Tryz.prog 99 [str s, .int .i64 a, .int .i64 b] [] (fun v Ps => v = .tuple #[.int .i64 (numM s).1, .bool (numR s a b)] ∧ Ps = []) := by
  refine Trip.of (m := 27) Tryz.func99 rfl rfl rfl ?_
  intro o Rs
  simp only [List.cons_append, List.nil_append, enumFrom]
  have F1 := RefNumber_spec s
  unfold numR inB
  generalize numM s = q at *
  cases h : q.2
  · rw [h] at F1
    refine go ?_
    simp
  · rw [h] at F1
    by_cases h1 : a ≤ q.1
    · by_cases h2 : q.1 ≤ b
      · rw [decide_eq_true ⟨h1, h2⟩]
        refine go ?_
        simp
        all_goals (intros; omega)
      · rw [decide_eq_false (fun h => h2 h.2)]
        refine go ?_
        simp
        all_goals (intros; omega)
    · rw [decide_eq_false (fun h => h1 h.1)]
      refine go ?_
      simp
theorem numM_rg (s : Tx) : 0 ≤ (numM s).1 ∧ (numM s).1 ≤ 1099511627776 := by
  unfold numM
  split
  · rename_i h
    simp only [Bool.and_eq_true, decide_eq_true_eq] at h
    exact ⟨by simp only; omega, by simp only; omega⟩
  · simp
theorem nums_spec (l : List Tx) (A : Option Addr) (c : Nat) (a b : Int) (hl : l.length ≤ 1000000) (R : HProp) (hR : Reads R Enc.str A l) : Trip Tryz.prog 103 [.slice A l.length c, .int .i64 a, .int .i64 b] [R] (fun v Ps => ∃ (x : {x : List Int × Bool // x.1.length ≤ l.length ∧ (x.2 = true → x.1.length = l.length)}) (B : Option Addr) (c2 : Nat), v = .tuple #[.slice B x.1.1.length c2, .bool x.1.2] ∧ Ps = [R, sl E64 3 B c2 x.1.1]) := by
  refine Trip.of (m := 35) Tryz.func103 rfl rfl rfl ?_
  intro o Rs
  simp only [List.cons_append, List.nil_append, enumFrom]
  refine go ?_
  refine ⟨?_, by simp⟩ <;> intros
  refine loop (σ := Nat × List Int × Option Addr × Nat) (fun s => s.1 ≤ l.length ∧ s.2.1.length = s.1) (fun s => [(0, .slice A l.length c), (1, .int .i64 a), (2, .int .i64 b), (8, .slice s.2.2.1 s.2.1.length s.2.2.2), (9, .int .i64 (s.1 : Int))]) (fun s => sl E64 3 s.2.2.1 s.2.2.2 s.2.1 :: R :: Rs) (fun s => l.length - s.1) (0, [], none, 0) ⟨Nat.zero_le _, rfl⟩ ?_
  rintro ⟨k, out, B, c2⟩ ⟨h1, h2⟩
  simp only at h1 h2 ⊢
  by_cases hk : k < l.length
  · obtain ⟨x, hx⟩ : ∃ x, l[k]? = some x := ⟨_, List.getElem?_eq_getElem hk⟩
    have hr := numM_rg x
    have F1 := num13_spec x a b
    generalize numR x a b = ok at *
    generalize numM x = q at *
    cases ok
    · refine go ?_
      refine ⟨?_, by simp⟩ <;> intros
      exact ret2 ⟨⟨([], false), Nat.zero_le _, by simp⟩, none, 0, rfl, rfl⟩
    · refine go ?_
      refine ⟨?_, by simp⟩ <;> intros
      rename_i A' c'
      exact rnd (k + 1, out ++ [q.1], A', c') ⟨hk, by simp only [List.length_append, List.length_cons, List.length_nil]; omega⟩ (by simp only; omega)
  · refine go ?_
    refine ⟨?_, by simp⟩ <;> intros
    exact ret2 ⟨⟨(out, true), by simp only; omega, fun _ => by simp only; omega⟩, B, c2, rfl, rfl⟩
theorem word13_spec (s : Tx) (l : List Tx) (A : Option Addr) (c : Nat) (hl : l.length ≤ 1000000) (R : HProp) (hR : Reads R Enc.str A l) : Trip Tryz.prog 100 [str s, .slice A l.length c] [R] (fun v Ps => ∃ k : Int, v = .int .i64 k ∧ Ps = [R]) := by
  refine Trip.of (m := 19) Tryz.func100 rfl rfl rfl ?_
  intro o Rs
  simp only [List.cons_append, List.nil_append, enumFrom]
  refine go ?_
  refine ⟨?_, by simp⟩ <;> intros
  refine loop (fun k => k ≤ l.length) (fun k => [(0, str s), (1, .slice A l.length c), (5, .int .i64 (k : Int))]) (fun k => R :: Rs) (fun k => l.length - k) 0 (Nat.zero_le _) fun k h1 => ?_
  by_cases hk : k < l.length
  · obtain ⟨x, hx⟩ : ∃ x, l[k]? = some x := ⟨_, List.getElem?_eq_getElem hk⟩
    refine go ?_
    (repeat' (first | exact trivial | apply And.intro | intro _))
    all_goals first
      | exact rnd (k + 1) hk (by omega)
      | exact ret1 ⟨(k : Int), rfl, rfl⟩
  · refine go ?_
    refine ⟨?_, by simp⟩ <;> intros
    exact ret1 ⟨-1, rfl, rfl⟩
def kindsT : List Tx := [[112, 108, 97, 105, 110], [115, 104, 111, 112], [98, 97, 110, 107], [102, 111, 114, 103, 101], [104, 111, 117, 115, 101], [104, 97, 108, 108]]
def slotsT : List Tx := [[110, 111, 110, 101], [119, 105, 101, 108, 100], [98, 111, 100, 121]]
theorem Kinds_spec : Trip Tryz.prog 165 [] [] (fun v Ps => ∃ g, v = .slice (some ⟨g, 0, none⟩) kindsT.length 6 ∧ Ps = [sl Enc.str 9 (some ⟨g, 0, none⟩) 6 kindsT]) := by
  refine Trip.of (m := 2) Tryz.func165 rfl rfl rfl ?_
  intro o Rs
  simp only [List.cons_append, List.nil_append, enumFrom]
  refine go ?_
  refine ⟨?_, by simp⟩ <;> intros
  exact ret1 ⟨_, rfl, rfl⟩
theorem Slots_spec : Trip Tryz.prog 101 [] [] (fun v Ps => ∃ g, v = .slice (some ⟨g, 0, none⟩) slotsT.length 3 ∧ Ps = [sl Enc.str 9 (some ⟨g, 0, none⟩) 3 slotsT]) := by
  refine Trip.of (m := 2) Tryz.func101 rfl rfl rfl ?_
  intro o Rs
  simp only [List.cons_append, List.nil_append, enumFrom]
  refine go ?_
  refine ⟨?_, by simp⟩ <;> intros
  exact ret1 ⟨_, rfl, rfl⟩
/-- Numbers, rising: here only how many there are. -/
theorem sorted_spec (l : List Int) (A : Option Addr) (c : Nat) (hl : l.length ≤ 1000000) (R : HProp) (hR : Reads R E64 A l) : Trip Tryz.prog 104 [.slice A l.length c] [R] (fun v Ps => ∃ (x : {x : List Int // x.length = l.length}) (B : Option Addr) (c2 : Nat), v = .slice B x.1.length c2 ∧ Ps = [R, sl E64 3 B c2 x.1]) := by
  refine Trip.of (m := 59) Tryz.func104 rfl rfl rfl ?_
  intro o Rs
  simp only [List.cons_append, List.nil_append, enumFrom]
  refine go ?_
  refine ⟨?_, by simp⟩ <;> intros
  refine loop (σ := Nat × List Int × Option Addr × Nat) (fun s => s.1 ≤ l.length ∧ s.2.1.length = s.1) (fun s => [(0, .slice A l.length c), (3, .slice s.2.2.1 s.2.1.length s.2.2.2), (4, .int .i64 (s.1 : Int))]) (fun s => sl E64 3 s.2.2.1 s.2.2.2 s.2.1 :: R :: Rs) (fun s => l.length - s.1) (0, [], none, 0) ⟨Nat.zero_le _, rfl⟩ ?_
  rintro ⟨i, out, B, c2⟩ ⟨h1, h0⟩
  simp only at h1 h0 ⊢
  by_cases hk : i < l.length
  · obtain ⟨x, hx⟩ : ∃ x, l[i]? = some x := ⟨_, List.getElem?_eq_getElem hk⟩
    refine go ?_
    refine ⟨?_, by simp⟩ <;> intros
    rename_i A' c'
    refine loop (σ := Nat × List Int) (fun s => s.1 < s.2.length ∧ s.2.length = i + 1) (fun s => [(0, .slice A l.length c), (3, .slice A' s.2.length c'), (4, .int .i64 (i : Int)), (5, .int .i64 (s.1 : Int))]) (fun s => sl E64 3 A' c' s.2 :: R :: Rs) (fun s => s.1) (i, out ++ [x]) ⟨by simp; omega, by simp; omega⟩ ?_ ⟨rfl, rfl, rfl, congrArg (fun z => some (Value.int .i64 z)) (by simp; omega), trivial⟩
    rintro ⟨k, m⟩ ⟨h2, h3⟩
    simp only at h2 h3 ⊢
    by_cases hk0 : 0 < k
    · obtain ⟨y, hy⟩ : ∃ y, m[k]? = some y := ⟨_, List.getElem?_eq_getElem h2⟩
      obtain ⟨z, hz⟩ : ∃ z, m[((k : Int) - 1).toNat]? = some z := ⟨_, List.getElem?_eq_getElem (by omega)⟩
      by_cases hyz : y < z
      · have hy2 : (m.set ((k : Int) - 1).toNat y)[k]? = some y := by rw [List.getElem?_set_ne (by omega)]; exact hy
        refine go ?_
        refine ⟨?_, by simp⟩ <;> intros
        refine W.sti (by exact rfl) (by exact rfl) (by (focus (with_reducible iterate 40 first | done | exact .here | apply Find.there); done)) rfl hz (by (first | exact Keep.nil | (focus ((repeat (first | exact Incl.nil | (apply Incl.cons; (focus (with_reducible iterate 40 first | done | exact .here | apply Find.there); done)))); first | done | fail)) | (focus (apply Keep.incl; (repeat (first | exact Incl.nil | (apply Incl.cons; (focus (with_reducible iterate 40 first | done | exact .here | apply Find.there); done)))); first | done | fail)) | exact Keep.free (by kernel_rfl))) ?_
        refine go ?_
        refine ⟨?_, by simp⟩ <;> intros
        refine W.sti (by exact rfl) (by exact rfl) (by (focus (with_reducible iterate 40 first | done | exact .here | apply Find.there); done)) rfl hy2 (by (first | exact Keep.nil | (focus ((repeat (first | exact Incl.nil | (apply Incl.cons; (focus (with_reducible iterate 40 first | done | exact .here | apply Find.there); done)))); first | done | fail)) | (focus (apply Keep.incl; (repeat (first | exact Incl.nil | (apply Incl.cons; (focus (with_reducible iterate 40 first | done | exact .here | apply Find.there); done)))); first | done | fail)) | exact Keep.free (by kernel_rfl))) ?_
        refine go ?_
        refine ⟨?_, by simp⟩ <;> intros
        exact rnd (k - 1, (m.set ((k : Int) - 1).toNat y).set k z) ⟨by simp only [List.length_set]; omega, by simp only [List.length_set]; omega⟩ (by simp only; omega) (hx := by simp only [List.length_set]; exact ⟨rfl, rfl, rfl, congrArg (fun z => some (Value.int .i64 z)) (by omega), trivial⟩)
      · refine go ?_
        refine ⟨?_, by simp⟩ <;> intros
        exact rnd (i + 1, m, A', c') ⟨hk, h3⟩ (by simp only; omega)
    · refine go ?_
      refine ⟨?_, by simp⟩ <;> intros
      exact rnd (i + 1, m, A', c') ⟨hk, h3⟩ (by simp only; omega)
  · refine go ?_
    refine ⟨?_, by simp⟩ <;> intros
    exact ret1 ⟨⟨out, by omega⟩, B, c2, rfl, rfl⟩
end Go.Proofs.YtlibnpdbcjgegaaGreat
namespace Go.Proofs.YtlibnpdbcjgegaaGreat
open Go.SL
set_option linter.unusedVariables false
set_option linter.unusedSimpArgs false
set_option maxHeartbeats 8000000
set_option maxRecDepth 20000
instance {a : Int} {l : List Int} {A : Option Addr} {n : Nat} : Elt Xc [.int .i64 a, .slice A l.length n] ((⟨a, l⟩ : Rcp), (A, n)) := ⟨rfl⟩
instance {a b : Int} {l : List Int} {A : Option Addr} {n : Nat} : Elt Xs [.int .i64 a, .int .i64 b, .slice A l.length n] ((⟨a, b, l⟩ : Shp), (A, n)) := ⟨rfl⟩
/-- Tables with no more than n rows of each kind, with names and lists within them that are not too long. -/
structure Sz (t : Tab) (n : Nat) : Prop where
  r : t.rooms.length ≤ n
  p : t.protos.length ≤ n
  m : t.mobs.length ≤ n
  c : t.recipes.length ≤ n
  q : t.quests.length ≤ n
  s : t.shops.length ≤ n
  rn : ∀ x ∈ t.rooms, x.name.length ≤ 1000000
  pn : ∀ x ∈ t.protos, x.name.length ≤ 1000000
  mn : ∀ x ∈ t.mobs, x.name.length ≤ 1000000
  nd : ∀ x ∈ t.recipes, x.needs.length ≤ 1000000
  it : ∀ x ∈ t.shops, x.items.length ≤ 1000000
theorem Sz.up {t : Tab} {n : Nat} (h : Sz t n) : Sz t (n + 1) := ⟨by have := h.r; omega, by have := h.p; omega, by have := h.m; omega, by have := h.c; omega, by have := h.q; omega, by have := h.s; omega, h.rn, h.pn, h.mn, h.nd, h.it⟩
theorem mem_snoc {α : Type} {p : α → Prop} {l : List α} {x : α} (h : ∀ y ∈ l, p y) (hx : p x) : ∀ y ∈ l ++ [x], p y := fun y hy => by
  rcases List.mem_append.1 hy with hy | hy
  · exact h y hy
  · rw [List.mem_singleton] at hy; subst hy; exact hx
theorem len_snoc {α : Type} {l : List α} {x : α} {n : Nat} (h : l.length ≤ n) : (l ++ [x]).length ≤ n + 1 := by simp only [List.length_append, List.length_cons, List.length_nil]; omega
theorem Sz.room {t : Tab} {n : Nat} (h : Sz t n) (x : Rm) (hx : x.name.length ≤ 1000000) : Sz { t with rooms := t.rooms ++ [x] } (n + 1) := ⟨len_snoc h.r, h.up.p, h.up.m, h.up.c, h.up.q, h.up.s, mem_snoc h.rn hx, h.pn, h.mn, h.nd, h.it⟩
theorem Sz.proto {t : Tab} {n : Nat} (h : Sz t n) (x : Pro) (hx : x.name.length ≤ 1000000) : Sz { t with protos := t.protos ++ [x] } (n + 1) := ⟨h.up.r, len_snoc h.p, h.up.m, h.up.c, h.up.q, h.up.s, h.rn, mem_snoc h.pn hx, h.mn, h.nd, h.it⟩
theorem Sz.mob {t : Tab} {n : Nat} (h : Sz t n) (x : Mpr) (hx : x.name.length ≤ 1000000) : Sz { t with mobs := t.mobs ++ [x] } (n + 1) := ⟨h.up.r, h.up.p, len_snoc h.m, h.up.c, h.up.q, h.up.s, h.rn, h.pn, mem_snoc h.mn hx, h.nd, h.it⟩
theorem Sz.rcp {t : Tab} {n : Nat} (h : Sz t n) (x : Rcp) (hx : x.needs.length ≤ 1000000) : Sz { t with recipes := t.recipes ++ [x] } (n + 1) := ⟨h.up.r, h.up.p, h.up.m, len_snoc h.c, h.up.q, h.up.s, h.rn, h.pn, h.mn, mem_snoc h.nd hx, h.it⟩
theorem Sz.qst {t : Tab} {n : Nat} (h : Sz t n) (x : Qst) : Sz { t with quests := t.quests ++ [x] } (n + 1) := ⟨h.up.r, h.up.p, h.up.m, h.up.c, len_snoc h.q, h.up.s, h.rn, h.pn, h.mn, h.nd, h.it⟩
theorem Sz.shp {t : Tab} {n : Nat} (h : Sz t n) (x : Shp) (hx : x.items.length ≤ 1000000) : Sz { t with shops := t.shops ++ [x] } (n + 1) := ⟨h.up.r, h.up.p, h.up.m, h.up.c, h.up.q, len_snoc h.s, h.rn, h.pn, h.mn, h.nd, mem_snoc h.it hx⟩
theorem room13_spec (e : Nat) (mt : Tay) (t : Tab) (n : Nat) (hn : n ≤ 100000) (sz : Sz t n) (w : List Tx) (hwl : w.length ≤ 1000000) (hwe : ∀ x ∈ w, x.length ≤ 1000000) (A : Option Addr) (c : Nat) (hc : w.length ≤ c) (R : HProp) (hR : Reads R Enc.str A w) :
    Trip Tryz.prog 98 [.pointer (some ⟨e, 0, none⟩), .slice A w.length c] [tb e mt t, R] (fun v Ps => ∃ (b : Bool) (mt' : Tay) (t' : {t' : Tab // Sz t' (n + 1)}), v = .bool b ∧ Ps = [tb e mt' t'.1, R]) := by
  refine Trip.of (m := 91) Tryz.func98 rfl rfl rfl ?_
  intro o Rs
  simp only [List.cons_append, List.nil_append, enumFrom]
  haveI : Plan 4 [26] [0, 1, 2, 3, 4, 5] := ⟨⟩
  haveI : Plan 14 [85, 86] [0, 1, 2, 3, 4, 5, 6, 7, 8, 9, 10] := ⟨⟩
  by_cases h11 : w.length = 11
  case neg =>
    refine go ?_
    refine ⟨?_, by simp⟩ <;> intros
    exact ret1 ⟨false, mt, ⟨t, sz.up⟩, rfl, rfl⟩
  obtain ⟨w1, hw1⟩ : ∃ x, w[1]? = some x := ⟨_, List.getElem?_eq_getElem (by omega)⟩
  obtain ⟨w2, hw2⟩ : ∃ x, w[2]? = some x := ⟨_, List.getElem?_eq_getElem (by omega)⟩
  obtain ⟨w3, hw3⟩ : ∃ x, w[3]? = some x := ⟨_, List.getElem?_eq_getElem (by omega)⟩
  obtain ⟨w4, hw4⟩ : ∃ x, w[4]? = some x := ⟨_, List.getElem?_eq_getElem (by omega)⟩
  have hl2 := hwe w2 (List.mem_of_getElem? hw2)
  have F1 := num13_spec w1 1 1000
  have F2 := num13_spec w4 0 1073741824
  have F3 := RefWord_spec w2 (by omega)
  have F4 := Kinds_spec
  have r1 := numM_rg w1
  have r4 := numM_rg w4
  generalize numR w1 1 1000 = ok1 at *
  generalize numR w4 0 1073741824 = ok2 at *
  generalize numM w1 = q1 at *
  generalize numM w4 = q4 at *
  generalize wordB w2 = wb at *
  refine go ?_
  refine ⟨?_, by simp⟩ <;> intros
  rename_i g
  have F5 := word13_spec w3 kindsT (some ⟨g, 0, none⟩) 6 (by decide) (sl Enc.str 9 (some ⟨g, 0, none⟩) 6 kindsT) reads_sl
  refine go ?_
  refine ⟨?_, by simp⟩ <;> intros
  rename_i k3
  clear F1 F2 F4 F5
  refine W.slice_ro (En := Enc.str) (R := R) (l := w) (a := 5) (b := (w.length : Int)) (ka := .i64) (kb := .i64) (by exact rfl) (.inr ⟨_, rfl, by exact rfl⟩) (.inl ⟨rfl, rfl⟩) hR hc (by decide) (by omega) (by omega) rfl fun A1 c1 hc1 hR1 => ?_
  have e1 : (w.drop (5 : Int).toNat).take ((w.length : Int).toNat - (5 : Int).toNat) = w.drop 5 := List.take_of_length_le (by rw [List.length_drop]; omega)
  rw [e1] at hc1 hR1 ⊢
  have hl5 : (w.drop 5).length = 6 := by rw [List.length_drop]; omega
  have F1 := nums_spec (w.drop 5) A1 c1 0 1000 (by omega) R hR1
  clear hc1
  generalize w.drop 5 = wd at *
  refine go ?_
  (repeat' (first | exact trivial | apply And.intro | intro _))
  all_goals first
    | (show E _ _ _ _ _ _; exact ret1 ⟨false, mt, ⟨t, sz.up⟩, rfl, rfl⟩)
    | skip
  rename_i x B c2 g1 g2 g3 g4 g5 b
  have hol := (x.2.2 g3).trans hl5
  clear F1 F3 g1 g2 g3 g4 g5
  obtain ⟨⟨out, ok3⟩, hx1, hx2⟩ := x
  simp only at hol hx1 ⊢
  refine loop (σ := Nat × Rm) (fun s => s.1 ≤ 6 ∧ s.2.name.length ≤ 1000000) (fun s => [(0, .pointer (some ⟨e, 0, none⟩)), (10, .slice B out.length c2), (12, .pointer (some ⟨b, 0, none⟩)), (13, .int .i64 (s.1 : Int))]) (fun s => blk b 112 (rmC s.2) :: sl E64 3 B c2 out :: R :: tb e mt t :: Rs) (fun s => 6 - s.1) (0, ⟨q1.1, w2, k3, q4.1, 0, 0, 0, 0, 0, 0⟩) ⟨Nat.zero_le _, hl2⟩ ?_
  rintro ⟨j, r⟩ ⟨hj, hrn⟩
  simp only at hj hrn ⊢
  by_cases hj6 : j < 6
  · obtain ⟨v, hv⟩ : ∃ v, out[j]? = some v := ⟨_, List.getElem?_eq_getElem (by omega)⟩
    obtain rfl | rfl | rfl | rfl | rfl | rfl : j = 0 ∨ j = 1 ∨ j = 2 ∨ j = 3 ∨ j = 4 ∨ j = 5 := by omega
    · refine go ?_
      refine ⟨?_, by simp⟩ <;> intros
      refine W.ixb (q := 0) (j' := 4) (by exact rfl) (by exact rfl) (by decide) (by decide) rfl rfl rfl rfl ?_
      refine go ?_
      refine ⟨?_, by simp⟩ <;> intros
      exact rnd (1, { r with e0 := v }) ⟨(show 1 ≤ 6 by decide), hrn⟩ (show 6 - 1 < 6 - 0 by decide)
    · refine go ?_
      refine ⟨?_, by simp⟩ <;> intros
      refine W.ixb (q := 1) (j' := 5) (by exact rfl) (by exact rfl) (by decide) (by decide) rfl rfl rfl rfl ?_
      refine go ?_
      refine ⟨?_, by simp⟩ <;> intros
      exact rnd (2, { r with e1 := v }) ⟨(show 2 ≤ 6 by decide), hrn⟩ (show 6 - 2 < 6 - 1 by decide)
    · refine go ?_
      refine ⟨?_, by simp⟩ <;> intros
      refine W.ixb (q := 2) (j' := 6) (by exact rfl) (by exact rfl) (by decide) (by decide) rfl rfl rfl rfl ?_
      refine go ?_
      refine ⟨?_, by simp⟩ <;> intros
      exact rnd (3, { r with e2 := v }) ⟨(show 3 ≤ 6 by decide), hrn⟩ (show 6 - 3 < 6 - 2 by decide)
    · refine go ?_
      refine ⟨?_, by simp⟩ <;> intros
      refine W.ixb (q := 3) (j' := 7) (by exact rfl) (by exact rfl) (by decide) (by decide) rfl rfl rfl rfl ?_
      refine go ?_
      refine ⟨?_, by simp⟩ <;> intros
      exact rnd (4, { r with e3 := v }) ⟨(show 4 ≤ 6 by decide), hrn⟩ (show 6 - 4 < 6 - 3 by decide)
    · refine go ?_
      refine ⟨?_, by simp⟩ <;> intros
      refine W.ixb (q := 4) (j' := 8) (by exact rfl) (by exact rfl) (by decide) (by decide) rfl rfl rfl rfl ?_
      refine go ?_
      refine ⟨?_, by simp⟩ <;> intros
      exact rnd (5, { r with e4 := v }) ⟨(show 5 ≤ 6 by decide), hrn⟩ (show 6 - 5 < 6 - 4 by decide)
    · refine go ?_
      refine ⟨?_, by simp⟩ <;> intros
      refine W.ixb (q := 5) (j' := 9) (by exact rfl) (by exact rfl) (by decide) (by decide) rfl rfl rfl rfl ?_
      refine go ?_
      refine ⟨?_, by simp⟩ <;> intros
      exact rnd (6, { r with e5 := v }) ⟨(show 6 ≤ 6 by decide), hrn⟩ (show 6 - 6 < 6 - 5 by decide)
  have hj7 : j = 6 := by omega
  subst hj7
  refine copent (d := e) (m := mt) (t := t) fun lt => ?_
  simp only [List.cons_append, List.nil_append]
  have sr := sz.r
  refine go ?_
  refine ⟨?_, by simp⟩ <;> intros
  rename_i A' c'
  refine efoldt e { mt with roA := A', roC := c' } { t with rooms := t.rooms ++ [r] } lt ?_
  exact ret1 ⟨true, _, ⟨{ t with rooms := t.rooms ++ [r] }, sz.room r hrn⟩, rfl, rfl⟩
end Go.Proofs.YtlibnpdbcjgegaaGreat
