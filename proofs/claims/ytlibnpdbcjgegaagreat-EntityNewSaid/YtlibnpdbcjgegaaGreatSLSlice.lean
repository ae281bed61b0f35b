/-
  Rules of a small separation logic: slices, bytes and texts.
-/
import Derived.Test.YtlibnpdbcjgegaaGreatSLOps
namespace Go.SL
set_option linter.unusedVariables false

/-- How the values of a type lie in cells. -/
structure Enc (α : Type) where
  sz : Nat
  f : α → List Value
  len : ∀ x, (f x).length = sz
  one : ∀ x v, v ∈ f x → v.oneCell' = true
  pos : 0 < sz
@[reducible] def Enc.u8 : Enc UInt8 := ⟨1, fun c => [.int .u8 (c.toNat : Int)], fun _ => rfl, fun x v h => by simp at h; subst h; rfl, by decide⟩
@[reducible] def Enc.int (k : IntKind) : Enc Int := ⟨1, fun c => [.int k c], fun _ => rfl, fun x v h => by simp at h; subst h; rfl, by decide⟩
@[reducible] def Enc.bool : Enc Bool := ⟨1, fun c => [.bool c], fun _ => rfl, fun x v h => by simp at h; subst h; rfl, by decide⟩
/-- A text is a list of bytes. -/
abbrev str (l : List UInt8) : Value := .string ⟨l.toArray⟩
@[reducible] def Enc.str : Enc (List UInt8) := ⟨1, fun c => [SL.str c], fun _ => rfl, fun x v h => by simp at h; subst h; rfl, by decide⟩
section
variable {α : Type} (E : Enc α)
def Enc.all (xs : List α) : List Value := xs.flatMap E.f
theorem Enc.all_length (xs : List α) : (E.all xs).length = xs.length * E.sz := by
  induction xs with
  | nil => simp [Enc.all]
  | cons x xs ih => simp only [Enc.all, List.flatMap_cons, List.length_append, E.len, List.length_cons] at ih ⊢; rw [ih, Nat.add_mul]; omega
theorem Enc.all_append (xs ys : List α) : E.all (xs ++ ys) = E.all xs ++ E.all ys := by simp [Enc.all]
theorem Enc.all_one (xs : List α) : ∀ v ∈ E.all xs, v.oneCell' = true := by
  intro v hv
  obtain ⟨x, _, hx⟩ := List.mem_flatMap.1 hv
  exact E.one x v hx
theorem Enc.all_get (xs : List α) (i j : Nat) (x : α) (v : Value) (hi : xs[i]? = some x) (hj : (E.f x)[j]? = some v) : (E.all xs)[i * E.sz + j]? = some v := by
  induction xs generalizing i with
  | nil => simp at hi
  | cons y xs ih =>
    have hjl : j < E.sz := by have := (List.getElem?_eq_some_iff.1 hj).1; rwa [E.len] at this
    cases i with
    | zero =>
      simp only [List.getElem?_cons_zero, Option.some.injEq] at hi
      subst hi
      simp only [Enc.all, List.flatMap_cons, Nat.zero_mul, Nat.zero_add]
      rw [List.getElem?_append_left (by rw [E.len]; exact hjl)]; exact hj
    | succ i =>
      simp only [List.getElem?_cons_succ] at hi
      have := ih i hi
      simp only [Enc.all, List.flatMap_cons] at this ⊢
      rw [List.getElem?_append_right (by rw [E.len, Nat.add_mul]; omega), E.len]
      rw [show (i + 1) * E.sz + j - E.sz = i * E.sz + j from by rw [Nat.add_mul]; omega]; exact this
end

theorem maxLen_eq : maxLen = 9223372036854775807 := rfl
/-- The slice `.slice A xs.length c` and its array, its own: these elements (and what lies ahead of them and behind). -/
def sl {α : Type} (E : Enc α) (e : TypeId) (A : Option Addr) (c : Nat) (xs : List α) : HProp := fun f =>
  (A = none ∧ c = 0 ∧ xs = [] ∧ f = emp) ∨
  ∃ g pre spare, A = some ⟨g, pre.length, none⟩ ∧ (E.all xs).length + spare.length = c * E.sz ∧ c ≤ maxLen ∧ blk g e (pre ++ E.all xs ++ spare) f
/-- Whatever holds this assertion, the slice at A reads as xs. -/
def Reads {α : Type} (R : HProp) (E : Enc α) (A : Option Addr) (xs : List α) : Prop :=
  ∀ f w, R f → Holds w f → xs = [] ∨ ∃ g off, A = some ⟨g, off, none⟩ ∧ ∀ i v, (E.all xs)[i]? = some v → w.cell? ⟨g, off + i, none⟩ = some v

section
variable {α : Type} {E : Enc α} {e : TypeId} {A : Option Addr} {c : Nat} {xs : List α} {o : Outer} {w : World} {r : List HProp}
theorem sl_emp (E : Enc α) (e : TypeId) : sl E e none 0 [] emp := .inl ⟨rfl, rfl, rfl, rfl⟩
theorem reads_sl : Reads (sl E e A c xs) E A xs := by
  intro f w hf hw
  rcases hf with ⟨_, _, h, _⟩ | ⟨g, pre, spare, hA, hl, hc, fr, hfr, rfl⟩
  · exact .inl h
  · refine .inr ⟨g, pre.length, hA, fun i v hv => ?_⟩
    have hb := hw g _ (one_self _ _)
    have hi := (List.getElem?_eq_some_iff.1 hv).1
    simp only [World.cell?, hb, Option.isSome_none, Bool.false_eq_true, if_false, List.getElem?_toArray]
    rw [List.append_assoc, List.getElem?_append_right (by omega), show pre.length + i - pre.length = i from by omega, List.getElem?_append_left hi, hv]
theorem Sat.sl_cap (h : Sat o w (sl E e A c xs :: r)) : xs.length ≤ c ∧ c ≤ maxLen ∧ (A = none → c = 0 ∧ xs = []) := by
  obtain ⟨f, hf, _⟩ := h.head
  rcases hf with ⟨h1, h2, h3, _⟩ | ⟨g, pre, spare, hA, hl, hc, _⟩
  · subst h2 h3; exact ⟨Nat.le_refl _, by simp [maxLen_eq], fun _ => ⟨rfl, rfl⟩⟩
  · rw [E.all_length] at hl
    refine ⟨?_, hc, fun hn => by rw [hn] at hA; cases hA⟩
    exact Nat.le_of_mul_le_mul_right (by omega : xs.length * E.sz ≤ c * E.sz) E.pos
/-- Open: what the slice's array holds. -/
theorem Sat.sl_open (h : Sat o w (sl E e A c xs :: r)) :
    (A = none ∧ c = 0 ∧ xs = [] ∧ Sat o w r) ∨ ∃ g pre spare, A = some ⟨g, pre.length, none⟩ ∧ (E.all xs).length + spare.length = c * E.sz ∧ c ≤ maxLen ∧ Sat o w (blk g e (pre ++ E.all xs ++ spare) :: r) := by
  have hd := h.lift (Lift.drop _ _)
  obtain ⟨ho, l, h1, h2, h3⟩ := h
  match l, h1 with
  | p :: l, h1 =>
    simp only [List.map_cons, List.cons.injEq] at h1
    have hp := (h2 p List.mem_cons_self)
    rw [h1.1] at hp
    rcases hp.1 with ⟨a, b, d, _⟩ | ⟨g, pre, spare, hA, hl, hc, hf⟩
    · exact .inl ⟨a, b, d, hd⟩
    · refine .inr ⟨g, pre, spare, hA, hl, hc, ho, (blk g e (pre ++ E.all xs ++ spare), p.2) :: l, by simp [h1.2], fun q hq => ?_, ?_⟩
      · rcases List.mem_cons.1 hq with e | hq
        · subst e; exact ⟨hf, hp.2⟩
        · exact h2 q (List.mem_cons_of_mem _ hq)
      · rw [List.pairwise_cons] at h3 ⊢; exact h3
/-- One assertion in the place of another that says more. -/
theorem Sat.weaken {A B : HProp} (h : Sat o w (A :: r)) (k : ∀ f, A f → B f) : Sat o w (B :: r) := by
  obtain ⟨ho, l, h1, h2, h3⟩ := h
  match l, h1 with
  | p :: l, h1 =>
    simp only [List.map_cons, List.cons.injEq] at h1
    have hp := (h2 p List.mem_cons_self)
    refine ⟨ho, (B, p.2) :: l, by simp [h1.2], fun q hq => ?_, ?_⟩
    · rcases List.mem_cons.1 hq with e | hq
      · subst e; exact ⟨k _ (h1.1 ▸ hp.1), hp.2⟩
      · exact h2 q (List.mem_cons_of_mem _ hq)
    · rw [List.pairwise_cons] at h3 ⊢; exact h3
theorem Sat.sl_close {g : Nat} {pre spare : List Value} (h : Sat o w (blk g e (pre ++ E.all xs ++ spare) :: r)) (hl : (E.all xs).length + spare.length = c * E.sz) (hc : c ≤ maxLen) :
    Sat o w (sl E e (some ⟨g, pre.length, none⟩) c xs :: r) :=
  h.weaken fun f hf => .inr ⟨g, pre, spare, rfl, hl, hc, hf⟩
end

/-! ### runs over cells -/
theorem add_addr (a : Addr) (ha : a.spot = none) (k : Nat) : a.add k = ⟨a.block, a.off + k, none⟩ := by
  obtain ⟨b, i, s⟩ := a; simp only at ha; subst ha; exact add_off b i k
theorem run_loadCellsFrom {P : Program} {w : World} (g off : Nat) : ∀ (vs : List Value) (i : Nat) (acc : Array Value), (∀ j v, vs[j]? = some v → w.cell? ⟨g, off + (i + j), none⟩ = some v) →
    (loadCellsFrom ⟨g, off, none⟩ i vs.length acc).run P w = .ok (acc ++ vs.toArray) w
  | [], i, acc, _ => by simp [loadCellsFrom]
  | v :: vs, i, acc, h => by
    have h0 := h 0 v rfl
    simp only [Nat.add_zero] at h0
    simp only [List.length_cons, loadCellsFrom, Sem.run_bind, run_load, add_off, h0, Result.andThen_ok]
    rw [run_loadCellsFrom g off vs (i + 1) (acc.push v) (fun j u hj => by
      have := h (j + 1) u (by simpa using hj)
      rw [show i + 1 + j = i + (j + 1) from by omega]; exact this)]
    simp
theorem run_loadCells {P : Program} {w : World} (g off : Nat) (vs : List Value) (h : ∀ j v, vs[j]? = some v → w.cell? ⟨g, off + j, none⟩ = some v) :
    (loadCells ⟨g, off, none⟩ vs.length).run P w = .ok vs.toArray w := by
  rw [loadCells, run_loadCellsFrom g off vs 0 #[] (fun j v hj => by simpa using h j v hj)]; simp
def setAll (cs : List Value) (k : Nat) : List Value → List Value
  | [] => cs
  | v :: vs => setAll (cs.set k v) (k + 1) vs
theorem setAll_length (cs : List Value) (k : Nat) (vs : List Value) : (setAll cs k vs).length = cs.length := by
  induction vs generalizing cs k with
  | nil => rfl
  | cons v vs ih => rw [setAll, ih, List.length_set]
theorem setAll_mid (pre old post : List Value) : ∀ (vs : List Value), old.length = vs.length → setAll (pre ++ old ++ post) pre.length vs = pre ++ vs ++ post := by
  intro vs
  induction vs generalizing pre old with
  | nil => intro h; cases old with | nil => rfl | cons => cases h
  | cons v vs ih =>
    intro h
    cases old with
    | nil => cases h
    | cons u old =>
      simp only [setAll]
      have h1 : (pre ++ u :: old ++ post).set pre.length v = (pre ++ [v]) ++ old ++ post := by
        simp
      rw [h1]
      have := ih (pre ++ [v]) old (by simpa using h)
      simp only [List.length_append, List.length_singleton] at this
      rw [this]; simp
theorem Sat.storeCells {P : Program} {o : Outer} {g off : Nat} {e : TypeId} {r : List HProp} : ∀ (vs : List Value) (i : Nat) (cs : List Value) (w : World), Sat o w (blk g e cs :: r) →
    off + i + vs.length ≤ cs.length → (∀ v ∈ vs, v.oneCell' = true) → ∃ w', (Go.storeCells ⟨g, off, none⟩ vs i).run P w = .ok () w' ∧ Sat o w' (blk g e (setAll cs (off + i) vs) :: r)
  | [], i, cs, w, h, _, _ => ⟨w, rfl, h⟩
  | v :: vs, i, cs, w, h, hl, h1 => by
    simp only [List.length_cons] at hl
    have hlt : off + i < cs.length := by omega
    have hc := h.blk_cell (List.getElem?_eq_getElem hlt)
    have hln : off + (i + 1) + vs.length ≤ (cs.set (off + i) v).length := by rw [List.length_set]; omega
    obtain ⟨w', hr, hs⟩ := Sat.storeCells (P := P) vs (i + 1) (cs.set (off + i) v) _ (h.store (off + i) v) hln (fun u hu => h1 u (List.mem_cons_of_mem _ hu))
    refine ⟨w', ?_, hs⟩
    simp only [Go.storeCells, Sem.run_bind, add_off, run_store P w _ v .plain (h1 v List.mem_cons_self), hc, h.blk_thawed hlt, Bool.false_eq_true, if_false, Result.andThen_ok]
    exact hr

/-! ### append -/
theorem zeroCells_length (z : Array Value) (n : Nat) : (Builtin.zeroCells z n).toList.length = n * z.size := by simp [Builtin.zeroCells]
theorem Sat.append {P : Program} {α : Type} {E : Enc α} {t e bytes : Nat} [ht : SliceTy P t e E.sz bytes] {o : Outer} {w : World} {A : Option Addr} {c : Nat} {xs : List α} {r : List HProp}
    (h : Sat o w (sl E e A c xs :: r)) (news : List α) (A2 : Option Addr) (c2 : Nat) (hx : ∀ w' : World, w'.heap = w.heap → (Builtin.firstCells E.sz news.length (.slice A2 news.length c2)).run P w' = .ok (E.all news).toArray w')
    (hb : (xs.length + news.length) * bytes ≤ 140737488355328) (hm : xs.length + news.length ≤ 140737488355328) (ty : TypeId) :
    ∃ A' c' w', (Builtin.append_ #[t, t] ty #[.slice A xs.length c, .slice A2 news.length c2]).run P w = .ok (.slice A' (xs.length + news.length) c') w' ∧
      Sat o w' (sl E e A' c' (xs ++ news) :: r) := by
  obtain ⟨i, z, hi, hsz, hby, hz, hzs⟩ := ht.info
  have hund := ht.und
  subst hby
  have hcap := h.sl_cap
  have hnl := E.all_length news
  have hxl := E.all_length xs
  by_cases hroom : xs.length + news.length ≤ c
  · rcases h.sl_open with ⟨hA, hc0, hxs, hr⟩ | ⟨g, pre, spare, hA, hl, hc, hr⟩
    · subst hA hc0 hxs
      have hn0 : news = [] := List.eq_nil_of_length_eq_zero (by simpa using hroom)
      subst hn0
      refine ⟨none, 0, w, ?_, hr.lift (Lift.emp (sl_emp E e) _)⟩
      have := hx w rfl
      simp only [List.length_nil] at this
      simp [Builtin.append_, run_underlying hund, sizeOf, typeInfo, hi, hsz, Builtin.lenOf, this]
    · subst hA
      have hfit : news.length * E.sz ≤ spare.length := by
        have := Nat.mul_le_mul_right E.sz hroom
        rw [Nat.add_mul] at this; omega
      obtain ⟨w', hrun, hs⟩ := Sat.storeCells (P := P) (off := pre.length + (E.all xs).length) (E.all news) 0 _ w hr (by simp only [List.length_append]; omega) (E.all_one news)
      refine ⟨some ⟨g, pre.length, none⟩, c, w', ?_, ?_⟩
      · rw [hxl] at hrun
        simp [Builtin.append_, run_underlying hund, sizeOf, typeInfo, hi, hsz, Builtin.lenOf, hroom, hx w rfl, add_off, hrun]
      · rw [Nat.add_zero] at hs
        have e1 : pre ++ E.all xs ++ spare = (pre ++ E.all xs) ++ spare.take (E.all news).length ++ spare.drop (E.all news).length := by
          rw [List.append_assoc (pre ++ E.all xs), List.take_append_drop]
        rw [e1] at hs
        have e2 := setAll_mid (pre ++ E.all xs) (spare.take (E.all news).length) (spare.drop (E.all news).length) (E.all news) (by rw [List.length_take]; omega)
        rw [List.length_append] at e2
        rw [e2] at hs
        rw [show pre ++ E.all xs ++ E.all news ++ spare.drop (E.all news).length = pre ++ E.all (xs ++ news) ++ spare.drop (E.all news).length from by rw [E.all_append]; simp] at hs
        refine hs.sl_close ?_ hc
        rw [E.all_append, List.length_append, List.length_drop]; omega
  · have hold : (Builtin.firstCells E.sz xs.length (.slice A xs.length c)).run P w.drew = .ok (E.all xs).toArray w.drew := by
      rcases (Sat.drew h).sl_open with ⟨hA, hc0, hxs, hr⟩ | ⟨g, pre, spare, hA, hl, hc, hr⟩
      · subst hA hc0 hxs; rfl
      · subst hA
        simp only [Builtin.firstCells]
        rw [← hxl]
        refine run_loadCells g pre.length _ (fun j v hj => hr.blk_cell ?_)
        have hi := (List.getElem?_eq_some_iff.1 hj).1
        rw [List.append_assoc, List.getElem?_append_right (by omega), show pre.length + j - pre.length = j from by omega, List.getElem?_append_left hi, hj]
    have hnew := hx w.drew rfl
    have hfitg := growslice_fits (old := c) (need := xs.length + news.length) (bytes := i.bytes) (by omega) hb
    have h63' : ¬ (9223372036854775807 < ((xs.length : Int) + (news.length : Int))) := by omega
    have h48' : ¬ (281474976710656 < Builtin.nextslicecap (xs.length + news.length) c * i.bytes) := by omega
    have hge := grownCap_ge w (xs.length + news.length) c e
    have hle := grownCap_le_maxLen w (xs.length + news.length) c e (by rw [maxLen_eq]; omega)
    refine ⟨some ⟨w.heap.size, 0, none⟩, grownCap w (xs.length + news.length) c e,
      w.drew.alloc (.cells ([] ++ E.all (xs ++ news) ++ (Builtin.zeroCells z.cells (grownCap w (xs.length + news.length) c e - (xs.length + news.length))).toList).toArray e), ?_, ?_⟩
    · simp [Builtin.append_, run_underlying hund, sizeOf, typeInfo, zeroValue, hi, hsz, hz, Builtin.lenOf, hroom, h63', h48', Question.forced, hnew, hold, newRow, grownCap]
      congr 2
      apply Array.ext'
      simp [List.append_assoc, E.all_append]
    · have h5 := ((Sat.drew h).lift (Lift.drop _ _)).alloc e ([] ++ E.all (xs ++ news) ++ (Builtin.zeroCells z.cells (grownCap w (xs.length + news.length) c e - (xs.length + news.length))).toList)
      refine Sat.sl_close (pre := []) h5 ?_ hle
      rw [zeroCells_length, hzs, E.all_length, ← Nat.add_mul, List.length_append]
      congr 1; omega
end Go.SL
