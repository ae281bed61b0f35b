/-
  A small separation logic over the model's worlds: assertions on blocks, a list of them that hold apart, and how they live through stores and new blocks.
-/
import Derived.WalkKit
import Derived.ProofKit
import Derived.Deep.LoopGhost
import Derived.Laws.AppendOwn
namespace Go.SL

/-- A part of the heap: of some blocks, what they hold, and whether they are never written any more. -/
abbrev Hp := Nat → Option (Bool × Obj)
def Compat (f g : Hp) : Prop := ∀ b x y, f b = some x → g b = some y → x.1 = true ∧ x = y
theorem Compat.symm {f g : Hp} (h : Compat f g) : Compat g f := fun b x y hx hy => by
  obtain ⟨h1, h2⟩ := h b y x hy hx
  exact ⟨h2 ▸ h1, h2.symm⟩
def Holds (w : World) (f : Hp) : Prop := ∀ b x, f b = some x → w.heap[b]? = some x.2
abbrev HProp := Hp → Prop
structure Outer where
  os : Os
  tape : Nat → Question → Nat
  output : Array (Nat × ByteArray)
def outer (w : World) : Outer := ⟨w.os, w.tape, w.output⟩

abbrev Apart (p q : HProp × Hp) : Prop := Compat p.2 q.2
/-- The assertions of a list hold of parts of the world's heap that lie apart (what is never written may be shared). -/
def Sat (o : Outer) (w : World) (Ps : List HProp) : Prop :=
  outer w = o ∧ ∃ l : List (HProp × Hp), l.map Prod.fst = Ps ∧ (∀ p ∈ l, p.1 p.2 ∧ Holds w p.2) ∧ l.Pairwise Apart

def emp : Hp := fun _ => none
theorem Compat.emp_left (f : Hp) : Compat emp f := fun b x y h _ => by cases h
theorem Compat.emp_right (f : Hp) : Compat f emp := fun b x y _ h => by cases h
theorem Holds.emp (w : World) : Holds w emp := fun b x h => by cases h
/-- Whatever holds hs holds hs': some of it left out, in another order, and what holds of nothing besides. -/
def Lift (hs hs' : List HProp) : Prop :=
  ∀ l : List (HProp × Hp), l.map Prod.fst = hs → ∃ l' : List (HProp × Hp), l'.map Prod.fst = hs' ∧ (∀ p ∈ l', p ∈ l ∨ (p.1 p.2 ∧ p.2 = emp)) ∧ (l.Pairwise Apart → l'.Pairwise Apart)
theorem Lift.refl (hs : List HProp) : Lift hs hs := fun l h => ⟨l, h, fun _ h => .inl h, fun h => h⟩
theorem Lift.trans {a b c : List HProp} (h : Lift a b) (k : Lift b c) : Lift a c := fun l hl => by
  obtain ⟨l1, h1, h2, h3⟩ := h l hl
  obtain ⟨l2, k1, k2, k3⟩ := k l1 h1
  exact ⟨l2, k1, fun p hp => (k2 p hp).elim (fun hq => h2 p hq) .inr, fun hp => k3 (h3 hp)⟩
theorem Lift.cons {a b : List HProp} (A : HProp) (h : Lift a b) : Lift (A :: a) (A :: b) := fun l hl => by
  cases l with
  | nil => simp at hl
  | cons p l =>
    simp only [List.map_cons, List.cons.injEq] at hl
    obtain ⟨l1, h1, h2, h3⟩ := h l hl.2
    refine ⟨p :: l1, by simp [h1, hl.1], fun q hq => ?_, fun hp => ?_⟩
    · rcases List.mem_cons.1 hq with e | hq
      · exact .inl (e ▸ List.mem_cons_self)
      · exact (h2 q hq).imp (List.mem_cons_of_mem _) id
    · rw [List.pairwise_cons] at hp ⊢
      refine ⟨fun q hq => ?_, h3 hp.2⟩
      rcases h2 q hq with hq | ⟨_, hq⟩
      · exact hp.1 q hq
      · show Compat p.2 q.2
        rw [hq]; exact Compat.emp_right _
theorem Lift.swap (A B : HProp) (a : List HProp) : Lift (A :: B :: a) (B :: A :: a) := fun l hl => by
  match l, hl with
  | p :: q :: l, hl =>
    simp only [List.map_cons, List.cons.injEq] at hl
    refine ⟨q :: p :: l, by simp [hl.1, hl.2.1, hl.2.2], fun r hr => .inl (by simp only [List.mem_cons] at hr ⊢; rcases hr with h | h | h <;> simp [h]), fun hp => ?_⟩
    simp only [List.pairwise_cons, List.mem_cons, forall_eq_or_imp] at hp ⊢
    exact ⟨⟨Compat.symm hp.1.1, hp.2.1⟩, hp.1.2, hp.2.2⟩
theorem Lift.drop (A : HProp) (a : List HProp) : Lift (A :: a) a := fun l hl => by
  match l, hl with
  | p :: l, hl =>
    simp only [List.map_cons, List.cons.injEq] at hl
    exact ⟨l, hl.2, fun q hq => .inl (List.mem_cons_of_mem _ hq), fun hp => (List.pairwise_cons.1 hp).2⟩
theorem Lift.emp {A : HProp} (hA : A SL.emp) (a : List HProp) : Lift a (A :: a) := fun l hl =>
  ⟨(A, SL.emp) :: l, by simp [hl], fun p hp => (List.mem_cons.1 hp).elim (fun e => .inr (e ▸ ⟨hA, rfl⟩)) .inl, fun hp => List.pairwise_cons.2 ⟨fun q _ => Compat.emp_left _, hp⟩⟩
theorem Sat.lift {o : Outer} {w : World} {a b : List HProp} (h : Lift a b) (k : Sat o w a) : Sat o w b := by
  obtain ⟨ho, l, h1, h2, h3⟩ := k
  obtain ⟨l', g1, g2, g3⟩ := h l h1
  exact ⟨ho, l', g1, fun p hp => (g2 p hp).elim (fun hq => h2 p hq) (fun hq => ⟨hq.1, hq.2 ▸ Holds.emp w⟩), g3 h3⟩

/-- A stands in the list; what is left without it. -/
inductive Find : List HProp → HProp → List HProp → Prop
  | here {A : HProp} {r : List HProp} : Find (A :: r) A r
  | there {A B : HProp} {r r' : List HProp} : Find r A r' → Find (B :: r) A (B :: r')
theorem Find.lift {hs : List HProp} {A : HProp} {r : List HProp} (h : Find hs A r) : Lift hs (A :: r) := by
  induction h with
  | here => exact .refl _
  | there _ ih => exact (ih.cons _).trans (.swap _ _ _)
/-- hs comes to Ps and all of Rs. -/
inductive Ent : List HProp → List HProp → List HProp → Prop
  | done {Rs : List HProp} : Ent Rs [] Rs
  | same {Ps : List HProp} : Ent Ps Ps []
  | drop {A : HProp} {hs Ps Rs : List HProp} : Ent hs Ps Rs → Ent (A :: hs) Ps Rs
  | take {A : HProp} {hs r Ps Rs : List HProp} : Find hs A r → Ent r Ps Rs → Ent hs (A :: Ps) Rs
  | emp {A : HProp} {hs Ps Rs : List HProp} : A SL.emp → Ent hs Ps Rs → Ent hs (A :: Ps) Rs
theorem Ent.lift {hs Ps Rs : List HProp} (h : Ent hs Ps Rs) : Lift hs (Ps ++ Rs) := by
  induction h with
  | done => exact .refl _
  | same => rw [List.append_nil]; exact .refl _
  | drop _ ih => exact (Lift.drop _ _).trans ih
  | take hf _ ih => exact hf.lift.trans (ih.cons _)
  | emp hA _ ih => exact ih.trans (.emp hA _)

/-- The one block b. -/
def one (b : Nat) (x : Bool × Obj) : Hp := fun k => if k = b then some x else none
theorem one_some {b k : Nat} {x y : Bool × Obj} (h : one b x k = some y) : k = b ∧ y = x := by
  unfold one at h; split at h
  · exact ⟨‹_›, (Option.some.inj h).symm⟩
  · cases h
theorem one_self (b : Nat) (x : Bool × Obj) : one b x b = some x := by simp [one]
/-- Block b, of type T, its own to write: these cells. -/
def blk (b : Nat) (T : TypeId) (cs : List Value) : HProp := fun f => ∃ fr : Nat × Nat, (fr = (0, 0) ∨ cs.length ≤ fr.1) ∧ f = one b (false, .cells cs.toArray T fr)

theorem Sat.head {o : Outer} {w : World} {A : HProp} {r : List HProp} (h : Sat o w (A :: r)) : ∃ f, A f ∧ Holds w f := by
  obtain ⟨_, l, h1, h2, _⟩ := h
  match l, h1 with
  | p :: l, h1 =>
    simp only [List.map_cons, List.cons.injEq] at h1
    exact ⟨p.2, h1.1 ▸ (h2 p List.mem_cons_self).1, (h2 p List.mem_cons_self).2⟩
theorem Sat.blk_at {o : Outer} {w : World} {b : Nat} {T : TypeId} {cs : List Value} {r : List HProp} (h : Sat o w (blk b T cs :: r)) :
    ∃ fr, (fr = (0, 0) ∨ cs.length ≤ fr.1) ∧ w.heap[b]? = some (.cells cs.toArray T fr) := by
  obtain ⟨f, ⟨fr, hfr, rfl⟩, hf⟩ := h.head
  exact ⟨fr, hfr, hf b _ (one_self _ _)⟩
theorem Sat.blk_cell {o : Outer} {w : World} {b : Nat} {T : TypeId} {cs : List Value} {r : List HProp} (h : Sat o w (blk b T cs :: r)) {i : Nat} {v : Value} (hv : cs[i]? = some v) :
    w.cell? ⟨b, i, none⟩ = some v := by
  obtain ⟨fr, _, hb⟩ := h.blk_at
  simp [World.cell?, hb, hv]
theorem Sat.blk_thawed {o : Outer} {w : World} {b : Nat} {T : TypeId} {cs : List Value} {r : List HProp} (h : Sat o w (blk b T cs :: r)) {i : Nat} (hi : i < cs.length) :
    w.frozen? ⟨b, i, none⟩ = false := by
  obtain ⟨⟨lo, hi'⟩, hfr, hb⟩ := h.blk_at
  simp only [World.frozen?, hb]
  rcases hfr with e | e
  · cases e; simp
  · simp only at e; simp; omega

/-- What a step did: the part that the first assertion held is now held by another; all that is not its own to write, and was there, is as it was. -/
theorem Sat.turn {o : Outer} {w w' : World} {A B : HProp} {r : List HProp} (h : Sat o w (A :: r)) (ho : outer w' = o)
    (k : ∀ f, A f → Holds w f → ∃ g, B g ∧ Holds w' g ∧ (∀ b x, g b = some x → (∃ y, f b = some (false, y)) ∨ w.heap.size ≤ b ∨ f b = some x) ∧
      ∀ b, b < w.heap.size → (∀ y, f b ≠ some (false, y)) → w'.heap[b]? = w.heap[b]?) : Sat o w' (B :: r) := by
  obtain ⟨_, l, h1, h2, h3⟩ := h
  match l, h1 with
  | p :: l, h1 =>
    simp only [List.map_cons, List.cons.injEq] at h1
    obtain ⟨g, g1, g2, g3, g4⟩ := k p.2 (h1.1 ▸ (h2 p List.mem_cons_self).1) (h2 p List.mem_cons_self).2
    rw [List.pairwise_cons] at h3
    refine ⟨ho, (B, g) :: l, by simp [h1.2], fun q hq => ?_, ?_⟩
    · rcases List.mem_cons.1 hq with e | hq
      · subst e; exact ⟨g1, g2⟩
      · obtain ⟨q1, q2⟩ := h2 q (List.mem_cons_of_mem _ hq)
        refine ⟨q1, fun b x hb => ?_⟩
        have hw := q2 b x hb
        rw [g4 b (Array.getElem?_eq_some_iff.1 hw).1 (fun y hy => ?_)]
        · exact hw
        · have := (h3.1 q hq b _ _ hy hb).1; cases this
    · rw [List.pairwise_cons]
      refine ⟨fun q hq b x y hx hy => ?_, h3.2⟩
      have hw := (h2 q (List.mem_cons_of_mem _ hq)).2 b y hy
      rcases g3 b x hx with ⟨z, hz⟩ | hz | hz
      · have := (h3.1 q hq b _ _ hz hy).1; cases this
      · have := (Array.getElem?_eq_some_iff.1 hw).1; omega
      · exact h3.1 q hq b _ _ hz hy
/-- The same at nothing: new blocks alone. -/
theorem Sat.more {o : Outer} {w w' : World} {B : HProp} {r : List HProp} (h : Sat o w r) (ho : outer w' = o)
    (k : ∃ g, B g ∧ Holds w' g ∧ ∀ b x, g b = some x → w.heap.size ≤ b) (hk : ∀ b, b < w.heap.size → w'.heap[b]? = w.heap[b]?) : Sat o w' (B :: r) := by
  obtain ⟨h0, l, h1, h2, h3⟩ := h
  obtain ⟨g, g1, g2, g3⟩ := k
  refine ⟨ho, (B, g) :: l, by simp [h1], fun q hq => ?_, ?_⟩
  · rcases List.mem_cons.1 hq with e | hq
    · subst e; exact ⟨g1, g2⟩
    · obtain ⟨q1, q2⟩ := h2 q hq
      exact ⟨q1, fun b x hb => (hk b (Array.getElem?_eq_some_iff.1 (q2 b x hb)).1).trans (q2 b x hb)⟩
  · rw [List.pairwise_cons]
    refine ⟨fun q hq b x y hx hy => ?_, h3⟩
    have := (Array.getElem?_eq_some_iff.1 ((h2 q hq).2 b y hy)).1
    have := g3 b x hx
    omega
/-- The old blocks as they were, perhaps new ones. -/
theorem Sat.same {o : Outer} {w w' : World} {r : List HProp} (h : Sat o w r) (ho : outer w' = o) (hk : ∀ b, b < w.heap.size → w'.heap[b]? = w.heap[b]?) : Sat o w' r := by
  obtain ⟨_, l, h1, h2, h3⟩ := h
  refine ⟨ho, l, h1, fun q hq => ?_, h3⟩
  obtain ⟨q1, q2⟩ := h2 q hq
  exact ⟨q1, fun b x hb => (hk b (Array.getElem?_eq_some_iff.1 (q2 b x hb)).1).trans (q2 b x hb)⟩
theorem Sat.drew {o : Outer} {w : World} {r : List HProp} (h : Sat o w r) : Sat o w.drew r := h.same h.1 (fun _ _ => rfl)
theorem Sat.drawn {o : Outer} {w : World} {r : List HProp} (h : Sat o w r) (n : Nat) : Sat o { w with drawn := n } r := h.same h.1 (fun _ _ => rfl)

theorem Sat.alloc {o : Outer} {w : World} {r : List HProp} (h : Sat o w r) (T : TypeId) (cs : List Value) : Sat o (w.alloc (.cells cs.toArray T)) (blk w.heap.size T cs :: r) := by
  refine h.more h.1 ⟨_, ⟨(0, 0), .inl rfl, rfl⟩, fun b x hb => ?_, fun b x hb => ?_⟩ (fun b hb => RowKit.Below.heap_alloc w _ b hb)
  · obtain ⟨rfl, rfl⟩ := one_some hb; exact heap_alloc_new w _
  · obtain ⟨rfl, _⟩ := one_some hb; exact Nat.le_refl _
theorem heap_setCell_self (w : World) (b i : Nat) (v : Value) {cs : Array Value} {T : TypeId} {fr : Nat × Nat} (h : w.heap[b]? = some (.cells cs T fr)) :
    (w.setCell ⟨b, i, none⟩ v).heap[b]? = some (.cells (cs.setIfInBounds i v) T fr) := by
  simp [World.setCell, Array.getElem?_modify, h]
theorem Sat.store {o : Outer} {w : World} {b : Nat} {T : TypeId} {cs : List Value} {r : List HProp} (h : Sat o w (blk b T cs :: r)) (i : Nat) (v : Value) :
    Sat o (w.setCell ⟨b, i, none⟩ v) (blk b T (cs.set i v) :: r) := by
  refine h.turn h.1 ?_
  rintro f ⟨fr, hfr, rfl⟩ hf
  have hb := hf b _ (one_self _ _)
  refine ⟨_, ⟨fr, by simpa using hfr, rfl⟩, fun k x hk => ?_, fun k x hk => ?_, fun k hk hne => ?_⟩
  · obtain ⟨rfl, rfl⟩ := one_some hk
    rw [heap_setCell_self w k i v hb]; simp
  · obtain ⟨rfl, _⟩ := one_some hk
    exact .inl ⟨_, one_self _ _⟩
  · refine RowKit.Below.heap_setCell w _ v k (fun e => ?_)
    subst e
    exact hne _ (one_self _ _)
end Go.SL
