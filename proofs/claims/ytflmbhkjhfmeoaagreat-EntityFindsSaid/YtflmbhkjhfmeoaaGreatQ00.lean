/-
  Walks and laws joined: SLCore SLOrder SLRules SLOps SLSlice SLWalk SLMore.
-/
import Derived.WalkKit
import Derived.ProofKit
import Derived.Deep.LoopGhost
import Derived.Laws.AppendOwn
import Derived.Orders
import Derived.Laws.Entries
import Derived.Laws.BytesString
import Derived.IntWalk
import Derived.Laws.BytesArg
import Derived.Lib.ConvBytes
import Derived.Laws.Strings2
set_option linter.unusedVariables false
set_option linter.unusedSimpArgs false
namespace Go.SL
abbrev Hp := Nat → Option (Bool × Obj)
def Compat (f g : Hp) : Prop := ∀ b x y, f b = some x → g b = some y → x.1 = true ∧ x = y
theorem Compat.symm {f g : Hp} (h : Compat f g) : Compat g f := fun b x y hx hy => by
  obtain ⟨h1, h2⟩ := h b y x hy hx
  exact ⟨h2 ▸ h1, h2.symm⟩
def Holds (w : World) (f : Hp) : Prop := ∀ b x, f b = some x → w.heap[b]? = some x.2
abbrev HProp := Hp → Prop
structure Outer where
  os : Os
  tape : Nat → Question → Nat
  output : Array (Nat × ByteArray)
def outer (w : World) : Outer := ⟨w.os, w.tape, w.output⟩
abbrev Apart (p q : HProp × Hp) : Prop := Compat p.2 q.2
def Sat (o : Outer) (w : World) (Ps : List HProp) : Prop :=
  outer w = o ∧ ∃ l : List (HProp × Hp), l.map Prod.fst = Ps ∧ (∀ p ∈ l, p.1 p.2 ∧ Holds w p.2) ∧ l.Pairwise Apart
def emp : Hp := fun _ => none
theorem Compat.emp_left (f : Hp) : Compat emp f := fun b x y h _ => by cases h
theorem Compat.emp_right (f : Hp) : Compat f emp := fun b x y _ h => by cases h
theorem Holds.emp (w : World) : Holds w emp := fun b x h => by cases h
def Lift (hs hs' : List HProp) : Prop :=
  ∀ l : List (HProp × Hp), l.map Prod.fst = hs → ∃ l' : List (HProp × Hp), l'.map Prod.fst = hs' ∧ (∀ p ∈ l', p ∈ l ∨ (p.1 p.2 ∧ p.2 = emp)) ∧ (l.Pairwise Apart → l'.Pairwise Apart)
theorem Lift.refl (hs : List HProp) : Lift hs hs := fun l h => ⟨l, h, fun _ h => .inl h, fun h => h⟩
theorem Lift.trans {a b c : List HProp} (h : Lift a b) (k : Lift b c) : Lift a c := fun l hl => by
  obtain ⟨l1, h1, h2, h3⟩ := h l hl
  obtain ⟨l2, k1, k2, k3⟩ := k l1 h1
  exact ⟨l2, k1, fun p hp => (k2 p hp).elim (fun hq => h2 p hq) .inr, fun hp => k3 (h3 hp)⟩
theorem Lift.cons {a b : List HProp} (A : HProp) (h : Lift a b) : Lift (A :: a) (A :: b) := fun l hl => by
  cases l with
  | nil => simp at hl
  | cons p l =>
    simp only [List.map_cons, List.cons.injEq] at hl
    obtain ⟨l1, h1, h2, h3⟩ := h l hl.2
    refine ⟨p :: l1, by simp [h1, hl.1], fun q hq => ?_, fun hp => ?_⟩
    · rcases List.mem_cons.1 hq with e | hq
      · exact .inl (e ▸ List.mem_cons_self)
      · exact (h2 q hq).imp (List.mem_cons_of_mem _) id
    · rw [List.pairwise_cons] at hp ⊢
      refine ⟨fun q hq => ?_, h3 hp.2⟩
      rcases h2 q hq with hq | ⟨_, hq⟩
      · exact hp.1 q hq
      · show Compat p.2 q.2
        rw [hq]; exact Compat.emp_right _
theorem Lift.swap (A B : HProp) (a : List HProp) : Lift (A :: B :: a) (B :: A :: a) := fun l hl => by
  match l, hl with
  | p :: q :: l, hl =>
    simp only [List.map_cons, List.cons.injEq] at hl
    refine ⟨q :: p :: l, by simp [hl.1, hl.2.1, hl.2.2], fun r hr => .inl (by simp only [List.mem_cons] at hr ⊢; rcases hr with h | h | h <;> simp [h]), fun hp => ?_⟩
    simp only [List.pairwise_cons, List.mem_cons, forall_eq_or_imp] at hp ⊢
    exact ⟨⟨Compat.symm hp.1.1, hp.2.1⟩, hp.1.2, hp.2.2⟩
theorem Lift.drop (A : HProp) (a : List HProp) : Lift (A :: a) a := fun l hl => by
  match l, hl with
  | p :: l, hl =>
    simp only [List.map_cons, List.cons.injEq] at hl
    exact ⟨l, hl.2, fun q hq => .inl (List.mem_cons_of_mem _ hq), fun hp => (List.pairwise_cons.1 hp).2⟩
theorem Lift.emp {A : HProp} (hA : A SL.emp) (a : List HProp) : Lift a (A :: a) := fun l hl =>
  ⟨(A, SL.emp) :: l, by simp [hl], fun p hp => (List.mem_cons.1 hp).elim (fun e => .inr (e ▸ ⟨hA, rfl⟩)) .inl, fun hp => List.pairwise_cons.2 ⟨fun q _ => Compat.emp_left _, hp⟩⟩
theorem Sat.lift {o : Outer} {w : World} {a b : List HProp} (h : Lift a b) (k : Sat o w a) : Sat o w b := by
  obtain ⟨ho, l, h1, h2, h3⟩ := k
  obtain ⟨l', g1, g2, g3⟩ := h l h1
  exact ⟨ho, l', g1, fun p hp => (g2 p hp).elim (fun hq => h2 p hq) (fun hq => ⟨hq.1, hq.2 ▸ Holds.emp w⟩), g3 h3⟩
inductive Find : List HProp → HProp → List HProp → Prop
  | here {A : HProp} {r : List HProp} : Find (A :: r) A r
  | there {A B : HProp} {r r' : List HProp} : Find r A r' → Find (B :: r) A (B :: r')
theorem Find.lift {hs : List HProp} {A : HProp} {r : List HProp} (h : Find hs A r) : Lift hs (A :: r) := by
  induction h with
  | here => exact .refl _
  | there _ ih => exact (ih.cons _).trans (.swap _ _ _)
inductive Ent : List HProp → List HProp → List HProp → Prop
  | done {Rs : List HProp} : Ent Rs [] Rs
  | same {Ps : List HProp} : Ent Ps Ps []
  | drop {A : HProp} {hs Ps Rs : List HProp} : Ent hs Ps Rs → Ent (A :: hs) Ps Rs
  | take {A : HProp} {hs r Ps Rs : List HProp} : Find hs A r → Ent r Ps Rs → Ent hs (A :: Ps) Rs
  | emp {A : HProp} {hs Ps Rs : List HProp} : A SL.emp → Ent hs Ps Rs → Ent hs (A :: Ps) Rs
theorem Ent.lift {hs Ps Rs : List HProp} (h : Ent hs Ps Rs) : Lift hs (Ps ++ Rs) := by
  induction h with
  | done => exact .refl _
  | same => rw [List.append_nil]; exact .refl _
  | drop _ ih => exact (Lift.drop _ _).trans ih
  | take hf _ ih => exact hf.lift.trans (ih.cons _)
  | emp hA _ ih => exact ih.trans (.emp hA _)
def one (b : Nat) (x : Bool × Obj) : Hp := fun k => if k = b then some x else none
theorem one_some {b k : Nat} {x y : Bool × Obj} (h : one b x k = some y) : k = b ∧ y = x := by
  unfold one at h; split at h
  · exact ⟨‹_›, (Option.some.inj h).symm⟩
  · cases h
theorem one_self (b : Nat) (x : Bool × Obj) : one b x b = some x := by simp [one]
def blk (b : Nat) (T : TypeId) (cs : List Value) : HProp := fun f => ∃ fr : Nat × Nat, (fr = (0, 0) ∨ cs.length ≤ fr.1) ∧ f = one b (false, .cells cs.toArray T fr)
theorem Sat.head {o : Outer} {w : World} {A : HProp} {r : List HProp} (h : Sat o w (A :: r)) : ∃ f, A f ∧ Holds w f := by
  obtain ⟨_, l, h1, h2, _⟩ := h
  match l, h1 with
  | p :: l, h1 =>
    simp only [List.map_cons, List.cons.injEq] at h1
    exact ⟨p.2, h1.1 ▸ (h2 p List.mem_cons_self).1, (h2 p List.mem_cons_self).2⟩
theorem Sat.blk_at {o : Outer} {w : World} {b : Nat} {T : TypeId} {cs : List Value} {r : List HProp} (h : Sat o w (blk b T cs :: r)) :
    ∃ fr, (fr = (0, 0) ∨ cs.length ≤ fr.1) ∧ w.heap[b]? = some (.cells cs.toArray T fr) := by
  obtain ⟨f, ⟨fr, hfr, rfl⟩, hf⟩ := h.head
  exact ⟨fr, hfr, hf b _ (one_self _ _)⟩
theorem Sat.blk_cell {o : Outer} {w : World} {b : Nat} {T : TypeId} {cs : List Value} {r : List HProp} (h : Sat o w (blk b T cs :: r)) {i : Nat} {v : Value} (hv : cs[i]? = some v) :
    w.cell? ⟨b, i, none⟩ = some v := by
  obtain ⟨fr, _, hb⟩ := h.blk_at
  simp [World.cell?, hb, hv]
theorem Sat.blk_thawed {o : Outer} {w : World} {b : Nat} {T : TypeId} {cs : List Value} {r : List HProp} (h : Sat o w (blk b T cs :: r)) {i : Nat} (hi : i < cs.length) :
    w.frozen? ⟨b, i, none⟩ = false := by
  obtain ⟨⟨lo, hi'⟩, hfr, hb⟩ := h.blk_at
  simp only [World.frozen?, hb]
  rcases hfr with e | e
  · cases e; simp
  · simp only at e; simp; omega
theorem Sat.turn {o : Outer} {w w' : World} {A B : HProp} {r : List HProp} (h : Sat o w (A :: r)) (ho : outer w' = o)
    (k : ∀ f, A f → Holds w f → ∃ g, B g ∧ Holds w' g ∧ (∀ b x, g b = some x → (∃ y, f b = some (false, y)) ∨ w.heap.size ≤ b ∨ f b = some x) ∧
      ∀ b, b < w.heap.size → (∀ y, f b ≠ some (false, y)) → w'.heap[b]? = w.heap[b]?) : Sat o w' (B :: r) := by
  obtain ⟨_, l, h1, h2, h3⟩ := h
  match l, h1 with
  | p :: l, h1 =>
    simp only [List.map_cons, List.cons.injEq] at h1
    obtain ⟨g, g1, g2, g3, g4⟩ := k p.2 (h1.1 ▸ (h2 p List.mem_cons_self).1) (h2 p List.mem_cons_self).2
    rw [List.pairwise_cons] at h3
    refine ⟨ho, (B, g) :: l, by simp [h1.2], fun q hq => ?_, ?_⟩
    · rcases List.mem_cons.1 hq with e | hq
      · subst e; exact ⟨g1, g2⟩
      · obtain ⟨q1, q2⟩ := h2 q (List.mem_cons_of_mem _ hq)
        refine ⟨q1, fun b x hb => ?_⟩
        have hw := q2 b x hb
        rw [g4 b (Array.getElem?_eq_some_iff.1 hw).1 (fun y hy => ?_)]
        · exact hw
        · have := (h3.1 q hq b _ _ hy hb).1; cases this
    · rw [List.pairwise_cons]
      refine ⟨fun q hq b x y hx hy => ?_, h3.2⟩
      have hw := (h2 q (List.mem_cons_of_mem _ hq)).2 b y hy
      rcases g3 b x hx with ⟨z, hz⟩ | hz | hz
      · have := (h3.1 q hq b _ _ hz hy).1; cases this
      · have := (Array.getElem?_eq_some_iff.1 hw).1; omega
      · exact h3.1 q hq b _ _ hz hy
theorem Sat.more {o : Outer} {w w' : World} {B : HProp} {r : List HProp} (h : Sat o w r) (ho : outer w' = o)
    (k : ∃ g, B g ∧ Holds w' g ∧ ∀ b x, g b = some x → w.heap.size ≤ b) (hk : ∀ b, b < w.heap.size → w'.heap[b]? = w.heap[b]?) : Sat o w' (B :: r) := by
  obtain ⟨h0, l, h1, h2, h3⟩ := h
  obtain ⟨g, g1, g2, g3⟩ := k
  refine ⟨ho, (B, g) :: l, by simp [h1], fun q hq => ?_, ?_⟩
  · rcases List.mem_cons.1 hq with e | hq
    · subst e; exact ⟨g1, g2⟩
    · obtain ⟨q1, q2⟩ := h2 q hq
      exact ⟨q1, fun b x hb => (hk b (Array.getElem?_eq_some_iff.1 (q2 b x hb)).1).trans (q2 b x hb)⟩
  · rw [List.pairwise_cons]
    refine ⟨fun q hq b x y hx hy => ?_, h3⟩
    have := (Array.getElem?_eq_some_iff.1 ((h2 q hq).2 b y hy)).1
    have := g3 b x hx
    omega
theorem Sat.same {o : Outer} {w w' : World} {r : List HProp} (h : Sat o w r) (ho : outer w' = o) (hk : ∀ b, b < w.heap.size → w'.heap[b]? = w.heap[b]?) : Sat o w' r := by
  obtain ⟨_, l, h1, h2, h3⟩ := h
  refine ⟨ho, l, h1, fun q hq => ?_, h3⟩
  obtain ⟨q1, q2⟩ := h2 q hq
  exact ⟨q1, fun b x hb => (hk b (Array.getElem?_eq_some_iff.1 (q2 b x hb)).1).trans (q2 b x hb)⟩
theorem Sat.drew {o : Outer} {w : World} {r : List HProp} (h : Sat o w r) : Sat o w.drew r := h.same h.1 (fun _ _ => rfl)
theorem Sat.drawn {o : Outer} {w : World} {r : List HProp} (h : Sat o w r) (n : Nat) : Sat o { w with drawn := n } r := h.same h.1 (fun _ _ => rfl)
theorem Sat.alloc {o : Outer} {w : World} {r : List HProp} (h : Sat o w r) (T : TypeId) (cs : List Value) : Sat o (w.alloc (.cells cs.toArray T)) (blk w.heap.size T cs :: r) := by
  refine h.more h.1 ⟨_, ⟨(0, 0), .inl rfl, rfl⟩, fun b x hb => ?_, fun b x hb => ?_⟩ (fun b hb => RowKit.Below.heap_alloc w _ b hb)
  · obtain ⟨rfl, rfl⟩ := one_some hb; exact heap_alloc_new w _
  · obtain ⟨rfl, _⟩ := one_some hb; exact Nat.le_refl _
theorem heap_setCell_self (w : World) (b i : Nat) (v : Value) {cs : Array Value} {T : TypeId} {fr : Nat × Nat} (h : w.heap[b]? = some (.cells cs T fr)) :
    (w.setCell ⟨b, i, none⟩ v).heap[b]? = some (.cells (cs.setIfInBounds i v) T fr) := by
  simp [World.setCell, Array.getElem?_modify, h]
theorem Sat.store {o : Outer} {w : World} {b : Nat} {T : TypeId} {cs : List Value} {r : List HProp} (h : Sat o w (blk b T cs :: r)) (i : Nat) (v : Value) :
    Sat o (w.setCell ⟨b, i, none⟩ v) (blk b T (cs.set i v) :: r) := by
  refine h.turn h.1 ?_
  rintro f ⟨fr, hfr, rfl⟩ hf
  have hb := hf b _ (one_self _ _)
  refine ⟨_, ⟨fr, by simpa using hfr, rfl⟩, fun k x hk => ?_, fun k x hk => ?_, fun k hk hne => ?_⟩
  · obtain ⟨rfl, rfl⟩ := one_some hk
    rw [heap_setCell_self w k i v hb]; simp
  · obtain ⟨rfl, _⟩ := one_some hk
    exact .inl ⟨_, one_self _ _⟩
  · refine RowKit.Below.heap_setCell w _ v k (fun e => ?_)
    subst e
    exact hne _ (one_self _ _)
end Go.SL
namespace Go.SL
inductive Kind where
  | pure | read | eff
  deriving DecidableEq
def intLike (P : Program) (t : TypeId) : Bool := match P.underlying t with | some (.int _) | some .string | some .bool => true | _ => false
def kind (P : Program) : Op → Kind
  | .move _ | .assign _ | .pick .. | .nilCheck _ | .extract .. | .makeFunc .. | .unOp .. | .field .. | .index .. | .build .. => .pure
  | .fieldAddr s _ f => match P.underlying s with
    | some (.struct fs) => match fs[f]? with
      | some fl => match P.info? fl.type with
        | some i => if i.size = 0 then .read else .pure
        | none => .read
      | none => .read
    | _ => .read
  | .binOp _ t _ _ _ => if intLike P t then .pure else .read
  | .makeInterface .. => .pure
  | .convert _ dst _ => match P.underlying dst with
    | some (.int _) => .pure
    | some .string => .read
    | _ => .eff
  | .slice t _ _ _ _ => match P.underlying t with
    | some .string | some (.slice _) => .pure
    | _ => .read
  | .indexAddr t _ _ => match P.underlying t with
    | some (.slice _) => .pure
    | _ => .read
  | .load .. => .read
  | .typeAssert .. => .pure
  | .call c => match c.callee with
    | .builtin .len => match (c.argTypes[0]?).bind P.underlying with
      | some (.map ..) | some (.chan ..) => .read
      | _ => .pure
    | .builtin .cap | .builtin .max | .builtin .min => .pure
    | _ => .eff
  | _ => .eff
def holds (R : HProp) (w : World) : Prop := ∃ f, R f ∧ Holds w f
def stbD (sr : List Tmp) : Option Tmp → Bool | some d => sr.contains d | none => false
def stb (sr : List Tmp) (o : Oper) : Bool := stbD sr o.dst
def isSt : Op → Bool
  | .store .. => true
  | .call _ => true
  | _ => false
def aheadB (sr : List Tmp) (T : Array Nat) (af : List Edge) : List Oper → Nat → Bool
  | [], _ => true
  | x :: r, i => (!stb sr x || af.any fun e => Region.binds .any e && (Nat.beq e.on i || (T.getD e.on 0).testBit i)) && aheadB sr T af r (i + 1)
def freeSt (sr : List Tmp) (ops : Array Oper) (o : Oper) : Bool := isSt o.op && (sr.isEmpty || aheadB sr (Region.before ops) o.after.toList ops.toList 0)
def wpK (P : Program) (sr : List Tmp) (ops : Array Oper) (Q : Exit → Act → World → Prop) : List HProp → List Oper → Act → World → Prop
  | _, [], a, w => Q .normal a w
  | St, o :: rest, a, w =>
    if Region.wanted o (yielded ops a.tmps) = true then
      match kind P o.op with
      | .pure => ∃ v, (∀ w', (execOp a.eval o).run P w' = .ok (.value v) w') ∧ wpK P sr ops Q St rest (a.put o.dst v) w
      | .read => if stb sr o = true then ∃ v R, (∀ w', holds R w' → (execOp a.eval o).run P w' = .ok (.value v) w') ∧ holds R w ∧ wpK P sr ops Q (R :: St) rest (a.put o.dst v) w
        else ∃ v, (execOp a.eval o).run P w = .ok (.value v) w ∧ wpK P sr ops Q St rest (a.put o.dst v) w
      | .eff => o.wp P a w (fun a w => (freeSt sr ops o = false → ∀ R ∈ St, holds R w) ∧ wpK P sr ops Q St rest a w) Q
    else wpK P sr ops Q St rest (a.put o.dst undef) w
section
variable {P : Program} {sr : List Tmp} {ops : Array Oper} {Q : Exit → Act → World → Prop}
theorem wpK_wp {St : List HProp} {o : Oper} {rest : List Oper} {a : Act} {w : World} (hw : Region.wanted o (yielded ops a.tmps) = true) (h : wpK P sr ops Q St (o :: rest) a w) :
    o.wp P a w (fun a w => ∃ St, wpK P sr ops Q St rest a w) Q := by
  unfold wpK at h
  rw [if_pos hw] at h
  split at h
  · obtain ⟨v, hv, hk⟩ := h; simp only [Oper.wp, hv w, Oper.upon_value]; exact ⟨_, hk⟩
  · split at h
    · obtain ⟨v, R, hv, hR, hk⟩ := h; simp only [Oper.wp, hv w hR, Oper.upon_value]; exact ⟨_, hk⟩
    · obtain ⟨v, hv, hk⟩ := h; simp only [Oper.wp, hv, Oper.upon_value]; exact ⟨_, hk⟩
  · exact Oper.wp_mono (fun a w h => ⟨_, h.2⟩) h
theorem wpK_off {St : List HProp} {o : Oper} {rest : List Oper} {a : Act} {w : World} (hw : Region.wanted o (yielded ops a.tmps) = false) (h : wpK P sr ops Q St (o :: rest) a w) : wpK P sr ops Q St rest (a.put o.dst undef) w := by
  unfold wpK at h
  rwa [if_neg (by simp [hw])] at h
theorem wpList_of : ∀ (l : List Oper) (St : List HProp) (a : Act) (w : World), wpK P sr ops Q St l a w → wpList P ops Q l a w
  | [], _, _, _, h => h
  | o :: rest, St, a, w, h => by
    unfold wpList
    cases hw : Region.wanted o (yielded ops a.tmps) with
    | true => simp only [if_true]; exact .inl (Oper.wp_mono (fun a w ⟨St, h⟩ => wpList_of rest St a w h) (wpK_wp hw h))
    | false => simp only [Bool.false_eq_true, if_false]; exact wpList_of rest _ _ _ (wpK_off hw h)
def Calm (Q : Exit → Act → World → Prop) : Prop := (∀ c a w, ¬ Q (.panic c) a w) ∧ ∀ a w, ¬ Q .outgrown a w
theorem Calm.then {Q : Exit → Act → World → Prop} {K : Act → World → Prop} (h : Calm Q) : Calm (Exit.then K Q) := h
theorem Calm.block {Q : Exit → Act → World → Prop} {id : Nat} (h : Calm Q) : Calm (Exit.inBlock id Q) := h
def swapB (P : Program) (sr : List Tmp) (ops : Array Oper) (x y : Oper) : Bool :=
  x.apart ops y && match kind P x.op, kind P y.op with
    | .pure, _ | _, .pure | .read, .read => true
    | .read, .eff => stb sr x && !freeSt sr ops y
    | _, _ => false
def noSel (o : Oper) : Bool := match o.op with | .select .. => false | _ => true
theorem noSel_spec {o : Oper} (h : noSel o = true) (cs : Array SelectCase) (b : Bool) : o.op ≠ .select cs b := by
  intro e; rw [noSel, e] at h; cases h
theorem wp_some {o : Oper} {a : Act} {w : World} {K : Act → World → Prop} (hQ : Calm Q) (h : o.wp P a w K Q) :
    ∃ (b : Act) (v : Value) (w' : World), K (b.put o.dst v) w' ∧ b.tmps = a.tmps := by
  unfold Oper.wp at h
  generalize (execOp a.eval o).run P w = r at h
  cases r with
  | ok n w' =>
    cases n <;> simp only [Oper.upon] at h
    case value v => exact ⟨a, v, w', h, rfl⟩
    case skip => exact ⟨a, _, w', h, rfl⟩
    case defer d => exact ⟨_, _, w', h, rfl⟩
    case enter f args =>
      obtain ⟨e, w2, fr, hR, _⟩ := h []
      cases e with
      | returned v => exact ⟨a, v, w2, hR, rfl⟩
      | panicked c => exact absurd hR (hQ.1 _ _ _)
      | outgrown => obtain ⟨a0, w0, hq⟩ := hR; exact absurd hq (hQ.2 _ _)
    case row row args =>
      obtain ⟨v, w2, hR, _⟩ := h default []
      exact ⟨a, v, w2, hR, rfl⟩
  | halt x w' =>
    cases x <;> simp only [Oper.upon] at h
    case panic v => exact absurd h (hQ.1 _ _ _)
theorem eval_tmps {a b : Act} (h : b.tmps = a.tmps) (x : Operand) : b.eval x = a.eval x := by cases x <;> simp [Act.eval, h]
theorem wpK_sub : ∀ {l : List Oper} {St St' : List HProp} {a : Act} {w : World}, (∀ R ∈ St', R ∈ St) → wpK P sr ops Q St l a w → wpK P sr ops Q St' l a w
  | [], _, _, _, _, _, h => h
  | o :: rest, St, St', a, w, hs, h => by
    unfold wpK at h ⊢
    split
    · rename_i hw
      rw [if_pos hw] at h
      split at h
      · obtain ⟨v, hv, h⟩ := h; exact ⟨v, hv, wpK_sub hs h⟩
      · split
        · rename_i hb; rw [if_pos hb] at h
          obtain ⟨v, R, hv, hR, h⟩ := h
          refine ⟨v, R, hv, hR, wpK_sub (fun R' h' => ?_) h⟩
          rcases List.mem_cons.1 h' with e | h'
          · exact e ▸ List.mem_cons_self
          · exact List.mem_cons_of_mem _ (hs R' h')
        · rename_i hb; rw [if_neg hb] at h
          obtain ⟨v, hv, h⟩ := h; exact ⟨v, hv, wpK_sub hs h⟩
      · exact Oper.wp_mono (fun a w h => ⟨fun hn R hR => h.1 hn R (hs R hR), wpK_sub hs h.2⟩) h
    · rename_i hw
      rw [if_neg hw] at h; exact wpK_sub hs h
theorem wpK_add {T : HProp} (hT : ∀ w, holds T w) : ∀ {l : List Oper} {St St' : List HProp} {a : Act} {w : World}, (∀ R ∈ St', R ∈ St ∨ R = T) → wpK P sr ops Q St l a w → wpK P sr ops Q St' l a w
  | [], _, _, _, _, _, h => h
  | o :: rest, St, St', a, w, hs, h => by
    unfold wpK at h ⊢
    split
    · rename_i hw
      rw [if_pos hw] at h
      split at h
      · obtain ⟨v, hv, h⟩ := h; exact ⟨v, hv, wpK_add hT hs h⟩
      · split
        · rename_i hb; rw [if_pos hb] at h
          obtain ⟨v, R, hv, hR, h⟩ := h
          refine ⟨v, R, hv, hR, wpK_add hT (fun R' h' => ?_) h⟩
          rcases List.mem_cons.1 h' with e | h'
          · exact .inl (e ▸ List.mem_cons_self)
          · exact (hs R' h').imp (List.mem_cons_of_mem _) id
        · rename_i hb; rw [if_neg hb] at h
          obtain ⟨v, hv, h⟩ := h; exact ⟨v, hv, wpK_add hT hs h⟩
      · exact Oper.wp_mono (fun a w h => ⟨fun hn R hR => (hs R hR).elim (fun h' => h.1 hn R h') (fun e => e ▸ hT w), wpK_add hT hs h.2⟩) h
    · rename_i hw
      rw [if_neg hw] at h; exact wpK_add hT hs h
theorem step_off {St : List HProp} {o : Oper} {rest : List Oper} {a : Act} {w : World} (hw : Region.wanted o (yielded ops a.tmps) = false) (h : wpK P sr ops Q St rest (a.put o.dst undef) w) : wpK P sr ops Q St (o :: rest) a w := by
  rw [wpK, if_neg (by simp [hw])]; exact h
set_option linter.unusedVariables false in
theorem wp_turn {o : Oper} {a : Act} {w : World} {K K' : Act → World → Prop} {ρ : Operand → Value} (hρ : execOp ρ o = execOp a.eval o) (x : Option Tmp) (u : Value) (hQ : Calm Q)
    (h2 : ∀ d, x = some d → o.dst ≠ some d) (h : o.wp P a w K Q) (k : ∀ (b : Act) v w', b.tmps = a.tmps → K (b.put o.dst v) w' → K' ((Act.put b x u).put o.dst v) w')
    (hρ2 : (a.put x u).eval = ρ) : o.wp P (a.put x u) w K' Q := by
  unfold Oper.wp at h ⊢
  rw [hρ2, hρ]
  generalize (execOp a.eval o).run P w = r at h ⊢
  cases r with
  | ok n w' =>
    cases n <;> simp only [Oper.upon] at h ⊢
    case value v => exact k a v w' rfl h
    case skip => exact k a _ w' rfl h
    case defer d => rw [Act.put_defers]; exact k _ _ w' rfl h
    case enter f args =>
      refine Calls.mono h fun e w'' he => ?_
      cases e with
      | returned v => exact k a v w'' rfl he
      | panicked c => exact absurd he (hQ.1 _ _ _)
      | outgrown => exact he
    case row row args => exact Rows.mono h fun v w'' he => k a v w'' rfl he
  | halt z w' =>
    cases z <;> simp only [Oper.upon] at h ⊢ <;> first | exact h | exact absurd h (hQ.1 _ _ _)
theorem wp_back {o : Oper} {a : Act} {w : World} {K K' : Act → World → Prop} (hs : noSel o = true) (x : Option Tmp) (u : Value) (hQ : Calm Q) (h1 : ∀ d, x = some d → d ∉ o.looksAt ops)
    (h : o.wp P (a.put x u) w K Q) (k : ∀ (b : Act) v w', b.tmps = a.tmps → K ((Act.put b x u).put o.dst v) w' → K' (b.put o.dst v) w') : o.wp P a w K' Q := by
  unfold Oper.wp at h ⊢
  rw [execOp_put o (noSel_spec hs) a x u h1] at h
  generalize (execOp a.eval o).run P w = r at h ⊢
  cases r with
  | ok n w' =>
    cases n <;> simp only [Oper.upon] at h ⊢
    case value v => exact k a v w' rfl h
    case skip => exact k a _ w' rfl h
    case defer d => rw [Act.put_defers] at h; exact k _ _ w' rfl h
    case enter f args =>
      refine Calls.mono h fun e w'' he => ?_
      cases e with
      | returned v => exact k a v w'' rfl he
      | panicked c => exact absurd he (hQ.1 _ _ _)
      | outgrown => exact he
    case row row args => exact Rows.mono h fun v w'' he => k a v w'' rfl he
  | halt z w' =>
    cases z <;> simp only [Oper.upon] at h ⊢ <;> first | exact h | exact absurd h (hQ.1 _ _ _)
theorem swap {St : List HProp} {x y : Oper} {rest : List Oper} {a : Act} {w : World} (hQ : Calm Q) (hx : noSel x = true) (hy : noSel y = true) (h : swapB P sr ops x y = true) (k : wpK P sr ops Q St (x :: y :: rest) a w) :
    wpK P sr ops Q St (y :: x :: rest) a w := by
  simp only [swapB, Bool.and_eq_true] at h
  obtain ⟨hap, hk⟩ := h
  obtain ⟨h1, h2, h3⟩ := Oper.apart_spec hap
  have h2' : ∀ d, y.dst = some d → x.dst ≠ some d := fun d hd e => h2 d e hd
  have wy : ∀ b u, Act.tmps b = a.tmps → Region.wanted y (yielded ops (b.put x.dst u).tmps) = Region.wanted y (yielded ops a.tmps) := fun b u hb => by rw [wanted_put y b x.dst u h1, hb]
  have wx : ∀ b u, Act.tmps b = a.tmps → Region.wanted x (yielded ops (b.put y.dst u).tmps) = Region.wanted x (yielded ops a.tmps) := fun b u hb => by rw [wanted_put x b y.dst u h3, hb]
  have ey : ∀ b u, Act.tmps b = a.tmps → execOp (Act.put b x.dst u).eval y = execOp a.eval y := fun b u hb => by
    rw [execOp_put y (noSel_spec hy) b x.dst u h1, show b.eval = a.eval from funext (eval_tmps hb)]
  have ex : ∀ b u, Act.tmps b = a.tmps → execOp (Act.put b y.dst u).eval x = execOp a.eval x := fun b u hb => by
    rw [execOp_put x (noSel_spec hx) b y.dst u h3, show b.eval = a.eval from funext (eval_tmps hb)]
  have comm : ∀ (b : Act) u v, (b.put x.dst u).put y.dst v = (b.put y.dst v).put x.dst u := fun b u v => Act.put_comm b u v h2
  have noP : ∀ (z : Option Tmp) (u : Value), ∀ c b w, Q (.panic c) (Act.put b z u) w → Q (.panic c) b w := fun z u c b w hq => absurd hq (hQ.1 _ _ _)
  cases hwx : Region.wanted x (yielded ops a.tmps) with
  | false =>
    -- x is not carried out
    have k1 := wpK_off hwx k
    have fin : ∀ St b v w', Act.tmps b = a.tmps → wpK P sr ops Q St rest ((Act.put b x.dst undef).put y.dst v) w' → wpK P sr ops Q St (x :: rest) (b.put y.dst v) w' := fun St b v w' hb hk => by
      refine step_off (by rw [wx b v hb, hwx]) ?_
      rw [← comm]; exact hk
    cases hwy : Region.wanted y (yielded ops a.tmps) with
    | false => exact step_off hwy (fin _ a undef w rfl (wpK_off (by rw [wy a undef rfl, hwy]) k1))
    | true =>
      rw [wpK, if_pos (by rw [wy a undef rfl, hwy]), ey a undef rfl] at k1
      rw [wpK, if_pos hwy]
      cases e : kind P y.op <;> simp only [e] at k1 ⊢
      · obtain ⟨v, hv, k1⟩ := k1; exact ⟨v, hv, fin _ a v w rfl k1⟩
      · split
        · rename_i hs; rw [if_pos hs] at k1; obtain ⟨v, R, hv, hR, k1⟩ := k1; exact ⟨v, R, hv, hR, fin _ a v w rfl k1⟩
        · rename_i hs; rw [if_neg hs] at k1; obtain ⟨v, hv, k1⟩ := k1; exact ⟨v, hv, fin _ a v w rfl k1⟩
      · exact wp_back (ops := ops) hy x.dst undef hQ h1 k1 (fun b v w' hb hk => ⟨hk.1, fin _ b v w' hb hk.2⟩)
  | true =>
    cases hwy : Region.wanted y (yielded ops a.tmps) with
    | false =>
      -- y is not carried out
      have fin : ∀ St b v w', Act.tmps b = a.tmps → wpK P sr ops Q St (y :: rest) (Act.put b x.dst v) w' → wpK P sr ops Q St rest ((Act.put b y.dst undef).put x.dst v) w' := fun St b v w' hb hk => by
        have := wpK_off (by rw [wy b v hb, hwy]) hk
        rw [comm] at this; exact this
      refine step_off hwy ?_
      rw [wpK, if_pos hwx] at k
      rw [wpK, if_pos (by rw [wx a undef rfl, hwx]), ex a undef rfl]
      cases e : kind P x.op <;> simp only [e] at k ⊢
      · obtain ⟨v, hv, k⟩ := k; exact ⟨v, hv, fin _ a v w rfl k⟩
      · split
        · rename_i hs; rw [if_pos hs] at k; obtain ⟨v, R, hv, hR, k⟩ := k; exact ⟨v, R, hv, hR, fin _ a v w rfl k⟩
        · rename_i hs; rw [if_neg hs] at k; obtain ⟨v, hv, k⟩ := k; exact ⟨v, hv, fin _ a v w rfl k⟩
      · exact wp_turn (ex a undef rfl) y.dst undef hQ h2' k (fun b v w' hb hk => ⟨hk.1, fin _ b v w' hb hk.2⟩) rfl
    | true =>
      rw [wpK, if_pos hwx] at k
      rw [wpK, if_pos hwy]
      cases ekx : kind P x.op <;> cases eky : kind P y.op <;> rw [ekx, eky] at hk <;> first | (cases hk; done) | skip
      all_goals simp only [ekx] at k
      all_goals simp only
      -- pure pure
      · obtain ⟨v, hv, k⟩ := k
        rw [wpK, if_pos (by rw [wy a v rfl, hwy])] at k; simp only [eky, ey a v rfl] at k
        obtain ⟨u, hu, k⟩ := k
        refine ⟨u, hu, ?_⟩
        rw [wpK, if_pos (by rw [wx a u rfl, hwx])]; simp only [ekx, ex a u rfl]
        exact ⟨v, hv, by rw [← comm]; exact k⟩
      -- pure read
      · obtain ⟨v, hv, k⟩ := k
        rw [wpK, if_pos (by rw [wy a v rfl, hwy])] at k; simp only [eky, ey a v rfl] at k
        split
        · rename_i hs; rw [if_pos hs] at k
          obtain ⟨u, R, hu, hR, k⟩ := k
          refine ⟨u, R, hu, hR, ?_⟩
          rw [wpK, if_pos (by rw [wx a u rfl, hwx])]; simp only [ekx, ex a u rfl]
          exact ⟨v, hv, by rw [← comm]; exact k⟩
        · rename_i hs; rw [if_neg hs] at k
          obtain ⟨u, hu, k⟩ := k
          refine ⟨u, hu, ?_⟩
          rw [wpK, if_pos (by rw [wx a u rfl, hwx])]; simp only [ekx, ex a u rfl]
          exact ⟨v, hv, by rw [← comm]; exact k⟩
      -- pure eff
      · obtain ⟨v, hv, k⟩ := k
        rw [wpK, if_pos (by rw [wy a v rfl, hwy])] at k; simp only [eky] at k
        refine wp_back (ops := ops) hy x.dst v hQ h1 k (fun b u w' hb hk => ⟨hk.1, ?_⟩)
        rw [wpK, if_pos (by rw [wx b u hb, hwx])]; simp only [ekx, ex b u hb]
        exact ⟨v, hv, by rw [← comm]; exact hk.2⟩
      -- read pure
      · split at k
        · rename_i hs
          obtain ⟨v, R, hv, hR, k⟩ := k
          rw [wpK, if_pos (by rw [wy a v rfl, hwy])] at k; simp only [eky, ey a v rfl] at k
          obtain ⟨u, hu, k⟩ := k
          refine ⟨u, hu, ?_⟩
          rw [wpK, if_pos (by rw [wx a u rfl, hwx])]; simp only [ekx, ex a u rfl, if_pos hs]
          exact ⟨v, R, hv, hR, by rw [← comm]; exact k⟩
        · rename_i hs
          obtain ⟨v, hv, k⟩ := k
          rw [wpK, if_pos (by rw [wy a v rfl, hwy])] at k; simp only [eky, ey a v rfl] at k
          obtain ⟨u, hu, k⟩ := k
          refine ⟨u, hu, ?_⟩
          rw [wpK, if_pos (by rw [wx a u rfl, hwx])]; simp only [ekx, ex a u rfl, if_neg hs]
          exact ⟨v, hv, by rw [← comm]; exact k⟩
      -- read read
      · have ky : ∀ St v, wpK P sr ops Q St (y :: rest) (a.put x.dst v) w →
            (∃ u, (execOp a.eval y).run P w = .ok (.value u) w ∧ ((stb sr y = false ∧ wpK P sr ops Q St rest ((a.put x.dst v).put y.dst u) w) ∨
              ∃ R, stb sr y = true ∧ (∀ w', holds R w' → (execOp a.eval y).run P w' = .ok (.value u) w') ∧ holds R w ∧ wpK P sr ops Q (R :: St) rest ((a.put x.dst v).put y.dst u) w)) := fun St v hk => by
          rw [wpK, if_pos (by rw [wy a v rfl, hwy])] at hk; simp only [eky, ey a v rfl] at hk
          split at hk
          · rename_i hs; obtain ⟨u, R, hu, hR, hk⟩ := hk; exact ⟨u, hu w hR, .inr ⟨R, hs, hu, hR, hk⟩⟩
          · rename_i hs; obtain ⟨u, hu, hk⟩ := hk; exact ⟨u, hu, .inl ⟨by simpa using hs, hk⟩⟩
        split at k
        · rename_i hsx
          obtain ⟨v, R, hv, hR, k⟩ := k
          obtain ⟨u, hu, ⟨hsy, hk⟩ | ⟨R2, hsy, hu2, hR2, hk⟩⟩ := ky _ v k
          · rw [if_neg (by simp [hsy])]
            refine ⟨u, hu, ?_⟩
            rw [wpK, if_pos (by rw [wx a u rfl, hwx])]; simp only [ekx, ex a u rfl, if_pos hsx]
            exact ⟨v, R, hv, hR, by rw [← comm]; exact hk⟩
          · rw [if_pos hsy]
            refine ⟨u, R2, hu2, hR2, ?_⟩
            rw [wpK, if_pos (by rw [wx a u rfl, hwx])]; simp only [ekx, ex a u rfl, if_pos hsx]
            exact ⟨v, R, hv, hR, by rw [← comm]; exact wpK_sub (fun R hR => by simp only [List.mem_cons] at hR ⊢; exact or_left_comm.1 hR) hk⟩
        · rename_i hsx
          obtain ⟨v, hv, k⟩ := k
          obtain ⟨u, hu, ⟨hsy, hk⟩ | ⟨R2, hsy, hu2, hR2, hk⟩⟩ := ky _ v k
          · rw [if_neg (by simp [hsy])]
            refine ⟨u, hu, ?_⟩
            rw [wpK, if_pos (by rw [wx a u rfl, hwx])]; simp only [ekx, ex a u rfl, if_neg hsx]
            exact ⟨v, hv, by rw [← comm]; exact hk⟩
          · rw [if_pos hsy]
            refine ⟨u, R2, hu2, hR2, ?_⟩
            rw [wpK, if_pos (by rw [wx a u rfl, hwx])]; simp only [ekx, ex a u rfl, if_neg hsx]
            exact ⟨v, hv, by rw [← comm]; exact hk⟩
      -- read eff
      · simp only [Bool.and_eq_true, Bool.not_eq_true'] at hk
        obtain ⟨hs, hns⟩ := hk
        rw [if_pos hs] at k
        obtain ⟨v, R, hv, hR, k⟩ := k
        rw [wpK, if_pos (by rw [wy a v rfl, hwy])] at k; simp only [eky] at k
        refine wp_back (ops := ops) hy x.dst v hQ h1 k (fun b u w' hb hk => ⟨fun hn R' h' => hk.1 hn R' (List.mem_cons_of_mem _ h'), ?_⟩)
        rw [wpK, if_pos (by rw [wx b u hb, hwx])]; simp only [ekx, ex b u hb, if_pos hs]
        exact ⟨v, R, hv, hk.1 hns R List.mem_cons_self, by rw [← comm]; exact hk.2⟩
      -- eff pure
      · obtain ⟨b, v, w', ⟨_, hb⟩, hbt⟩ := wp_some hQ k
        rw [wpK, if_pos (by rw [wy b v hbt, hwy])] at hb; simp only [eky, ey b v hbt] at hb
        obtain ⟨u, hu, _⟩ := hb
        refine ⟨u, hu, ?_⟩
        rw [wpK, if_pos (by rw [wx a u rfl, hwx])]; simp only [ekx]
        refine wp_turn (ex a u rfl) y.dst u hQ h2' k (fun b v w' hb hk => ⟨hk.1, ?_⟩) rfl
        have hk2 := hk.2
        rw [wpK, if_pos (by rw [wy b v hb, hwy])] at hk2; simp only [eky, ey b v hb] at hk2
        obtain ⟨u', hu', hk2⟩ := hk2
        have : u' = u := by have h5 := (hu' w').symm.trans (hu w'); simpa using h5
        subst this
        rw [← comm]; exact hk2
theorem wpK_mono {St : List HProp} {o : Oper} {r r' : List Oper} {a : Act} {w : World} (h : ∀ St a w, wpK P sr ops Q St r a w → wpK P sr ops Q St r' a w) (k : wpK P sr ops Q St (o :: r) a w) : wpK P sr ops Q St (o :: r') a w := by
  unfold wpK at k ⊢
  split
  · rename_i hw
    rw [if_pos hw] at k
    split at k
    · obtain ⟨v, hv, k⟩ := k; exact ⟨v, hv, h _ _ _ k⟩
    · split
      · rename_i hb; rw [if_pos hb] at k; obtain ⟨v, R, hv, hR, k⟩ := k; exact ⟨v, R, hv, hR, h _ _ _ k⟩
      · rename_i hb; rw [if_neg hb] at k; obtain ⟨v, hv, k⟩ := k; exact ⟨v, hv, h _ _ _ k⟩
    · exact Oper.wp_mono (fun a w k => ⟨k.1, h _ _ _ k.2⟩) k
  · rename_i hw
    rw [if_neg hw] at k; exact h _ _ _ k
theorem front {y : Oper} (hQ : Calm Q) (hy : noSel y = true) (rest : List Oper) : ∀ (l : List Oper) (St : List HProp) (a : Act) (w : World), (∀ x ∈ l, noSel x = true ∧ swapB P sr ops x y = true) →
    wpK P sr ops Q St (l ++ y :: rest) a w → wpK P sr ops Q St (y :: (l ++ rest)) a w
  | [], _, _, _, _, k => k
  | x :: l, St, a, w, h, k => by
    have hx := h x List.mem_cons_self
    refine swap hQ hx.1 hy hx.2 ?_
    exact wpK_mono (fun St a w => front hQ hy rest l St a w (fun z hz => h z (List.mem_cons_of_mem _ hz))) k
def pick (ops : Array Oper) (s : List Nat) : List Oper := s.filterMap (ops[·]?)
def hangs (y : Oper) (j : Nat) : Bool := y.after.toList.any fun e => Region.binds .any e && e.on == j
def pairB (f : Nat → Nat → Bool) : List Nat → Bool
  | [] => true
  | i :: r => r.all (f i) && pairB f r
theorem pairB_spec {f : Nat → Nat → Bool} : ∀ {l : List Nat}, pairB f l = true → l.Pairwise (fun i j => f i j = true)
  | [], _ => List.Pairwise.nil
  | i :: r, h => by
    simp only [pairB, Bool.and_eq_true, List.all_eq_true] at h
    exact List.pairwise_cons.2 ⟨h.1, pairB_spec h.2⟩
def mayB (P : Program) (sr : List Tmp) (ops : Array Oper) (T : Array Nat) (i j : Nat) : Bool :=
  (match ops[i]? with | some x => !hangs x j | none => true) && ((T.getD j 0).testBit i || match ops[i]?, ops[j]? with | some x, some y => swapB P sr ops x y | _, _ => true)
def tableB (ops : Array Oper) (T : Array Nat) : Bool :=
  (List.range ops.size).all fun i => match ops[i]? with
    | none => true
    | some y => y.after.toList.all (fun e => !Region.binds .any e || Nat.blt e.on i) && (List.range i).all fun j =>
        !(T.getD i 0).testBit j || y.after.toList.any (fun e => Region.binds .any e && (e.on == j || (Nat.blt j e.on && (T.getD e.on 0).testBit j)))
def calmB (P : Program) (sr : List Tmp) (l : List Oper) (π : List Nat) : Bool :=
  let ops := l.toArray
  let T := Region.before ops
  l.all noSel && tableB ops T && (List.range l.length).all (fun i => π.contains i) && π.all (fun i => Nat.blt i l.length) && pairB (fun i j => i != j && mayB P sr ops T i j) π && (π.all fun j => !(T.getD j 0 >>> l.length != 0) && (List.range l.length).all fun i => Nat.blt i j || !(T.getD j 0).testBit i)
variable {l : List Oper} {π : List Nat}
theorem calm_noSel (h : calmB P sr l π = true) {i : Nat} {y : Oper} (hy : l.toArray[i]? = some y) : noSel y = true := by
  simp only [calmB, Bool.and_eq_true, List.all_eq_true] at h
  exact h.1.1.1.1.1 y (List.mem_of_getElem? (by simpa using hy))
theorem calm_back (h : calmB P sr l π = true) {i : Nat} {y : Oper} (hy : l.toArray[i]? = some y) : ∀ e ∈ y.after, Region.binds .any e = true → e.on < i := by
  simp only [calmB, tableB, Bool.and_eq_true, List.all_eq_true] at h
  have hi : i < l.toArray.size := (Array.getElem?_eq_some_iff.1 hy).1
  have h2 := h.1.1.1.1.2 i (List.mem_range.2 hi)
  rw [hy] at h2
  simp only [Bool.and_eq_true, List.all_eq_true, Bool.or_eq_true, Bool.not_eq_true', Nat.blt_eq] at h2
  exact fun e he hb => (h2.1 e (by simpa using he)).resolve_left (by simp [hb])
theorem calm_table (h : calmB P sr l π = true) {i : Nat} {y : Oper} (hy : l.toArray[i]? = some y) {j : Nat} (hj : j < i) (hT : ((Region.before l.toArray).getD i 0).testBit j = true) :
    ∃ e ∈ y.after, Region.binds .any e = true ∧ (e.on = j ∨ (j < e.on ∧ ((Region.before l.toArray).getD e.on 0).testBit j = true)) := by
  simp only [calmB, tableB, Bool.and_eq_true, List.all_eq_true] at h
  have hi : i < l.toArray.size := (Array.getElem?_eq_some_iff.1 hy).1
  have h2 := h.1.1.1.1.2 i (List.mem_range.2 hi)
  rw [hy] at h2
  simp only [Bool.and_eq_true, List.all_eq_true, Bool.or_eq_true, Bool.not_eq_true', List.any_eq_true, beq_iff_eq, Nat.blt_eq] at h2
  rcases h2.2 j (List.mem_range.2 hj) with h3 | ⟨e, he, hb, hd⟩
  · rw [hT] at h3; cases h3
  · exact ⟨e, by simpa using he, hb, hd⟩
theorem calm_anc (h : calmB P sr l π = true) {listed : Array Bool}
    (hdown : ∀ x ox, l.toArray[x]? = some ox → listed.getD x false = true → ∀ e ∈ ox.after, Region.binds .any e = true → listed.getD e.on false = true) :
    ∀ (i : Nat) (y : Oper), l.toArray[i]? = some y → (∀ e ∈ y.after, Region.binds .any e = true → listed.getD e.on false = true) →
      ∀ j, j < i → ((Region.before l.toArray).getD i 0).testBit j = true → listed.getD j false = true := by
  intro i
  induction i using Nat.strongRecOn with
  | _ i ih =>
    intro y hy hdeps j hj hT
    obtain ⟨e, he, hb, hd⟩ := calm_table h hy hj hT
    have hl := hdeps e he hb
    rcases hd with rfl | ⟨hje, hd⟩
    · exact hl
    · have hlt := calm_back h hy e he hb
      have hi : i < l.toArray.size := (Array.getElem?_eq_some_iff.1 hy).1
      have hsome : l.toArray[e.on]? = some (l.toArray[e.on]'(by omega)) := Array.getElem?_eq_getElem (by omega)
      exact ih e.on hlt _ hsome (hdown e.on _ hsome hl) j hje hd
theorem getD_bit {listed : Array Bool} {i : Nat} (hi : i < listed.size) (d d' : Bool) : listed.getD i d = listed.getD i d' := by
  simp [hi]
abbrev May (P : Program) (sr : List Tmp) (l : List Oper) (i j : Nat) : Prop := (i != j && mayB P sr l.toArray (Region.before l.toArray) i j) = true
theorem wpAny_of (hQ : Calm Q) (hc : calmB P sr l π = true) : ∀ (fuel : Nat) (listed : Array Bool) (s : List Nat) (St : List HProp) (a : Act) (w : World),
    listed.size = l.toArray.size → s.Pairwise (May P sr l) → (∀ i, i ∈ s ↔ i < l.toArray.size ∧ listed.getD i true = false) →
    (∀ x ox, l.toArray[x]? = some ox → listed.getD x false = true → ∀ e ∈ ox.after, Region.binds .any e = true → listed.getD e.on false = true) →
    s.length ≤ fuel → wpK P sr l.toArray Q St (pick l.toArray s) a w → wpAny P .any l.toArray Q fuel listed a w := by
  intro fuel
  have empty : ∀ (listed : Array Bool) (s : List Nat) (St : List HProp) (a : Act) (w : World), listed.size = l.toArray.size → s.Pairwise (May P sr l) → (∀ i, i ∈ s ↔ i < l.toArray.size ∧ listed.getD i true = false) →
      Region.ready .any l.toArray listed = [] → wpK P sr l.toArray Q St (pick l.toArray s) a w → s = [] ∧ Q .normal a w := by
    intro listed s St a w hsz hs hmem hr k
    cases s with
    | nil => exact ⟨rfl, k⟩
    | cons i s =>
      exfalso
      obtain ⟨hi, hl⟩ := (hmem i).1 List.mem_cons_self
      have hsome : l.toArray[i]? = some (l.toArray[i]) := Array.getElem?_eq_getElem hi
      have : i ∈ Region.ready .any l.toArray listed := by
        rw [mem_ready]
        refine ⟨hl, _, hsome, fun e he hb => ?_⟩
        have hlt := calm_back hc hsome e he hb
        have hne : e.on ∉ i :: s := fun h => by
          rcases List.mem_cons.1 h with h | h
          · omega
          · have h5 := (List.pairwise_cons.1 hs).1 _ h
            simp only [Bool.and_eq_true, mayB, hsome] at h5
            have h6 := h5.2.1
            simp only [hangs, Bool.not_eq_true', List.any_eq_false, Bool.and_eq_true, beq_iff_eq, not_and] at h6
            exact h6 e (by simpa using he) hb rfl
        rw [hmem] at hne
        have h5 : ¬ listed.getD e.on true = false := fun h => hne ⟨by omega, h⟩
        rw [getD_bit (by omega) false true]
        simpa using h5
      rw [hr] at this; cases this
  induction fuel with
  | zero =>
    intro listed s St a w hsz hs hmem _ hlen k
    have : s = [] := List.eq_nil_of_length_eq_zero (by omega)
    subst this
    refine ⟨?_, k⟩
    cases hr : Region.ready .any l.toArray listed with
    | nil => rfl
    | cons i r =>
      exfalso
      have hi : i ∈ Region.ready .any l.toArray listed := by rw [hr]; exact List.mem_cons_self
      obtain ⟨h0, o, ho, _⟩ := mem_ready.1 hi
      have := (hmem i).2 ⟨(Array.getElem?_eq_some_iff.1 ho).1, h0⟩
      cases this
  | succ fuel ih =>
    intro listed s St a w hsz hs hmem hdown hlen k
    refine ⟨fun hr => (empty listed s St a w hsz hs hmem hr k).2, fun i hi => ?_⟩
    obtain ⟨h0, y, hy, hdeps⟩ := mem_ready.1 hi
    have hisz : i < l.toArray.size := (Array.getElem?_eq_some_iff.1 hy).1
    have his : i ∈ s := (hmem i).2 ⟨hisz, h0⟩
    obtain ⟨s1, s2, rfl⟩ := List.append_of_mem his
    rw [List.pairwise_append] at hs
    obtain ⟨hs1, hs2, hs12⟩ := hs
    have hpick : pick l.toArray (s1 ++ i :: s2) = pick l.toArray s1 ++ y :: pick l.toArray s2 := by
      simp only [pick, List.filterMap_append, List.filterMap_cons, hy]
    rw [hpick] at k
    have k2 := front hQ (calm_noSel hc hy) (pick l.toArray s2) (pick l.toArray s1) St a w (fun x hx => by
      obtain ⟨j, hj, hx⟩ := List.mem_filterMap.1 hx
      refine ⟨calm_noSel hc hx, ?_⟩
      have hm := hs12 j hj i List.mem_cons_self
      simp only [Bool.and_eq_true, mayB, hx, hy, Bool.or_eq_true] at hm
      rcases hm.2.2 with hT | hsw
      · exfalso
        have hji : j < i := by
          simp only [calmB, Bool.and_eq_true, List.all_eq_true] at hc
          have h8 := hc.2 i (List.contains_iff_mem.1 (hc.1.1.1.2 i (List.mem_range.2 (by simpa using hisz))))
          have h9 := h8.2 j (List.mem_range.2 (by have := (Array.getElem?_eq_some_iff.1 hx).1; simpa using this))
          simp only [hT, Bool.not_true, Bool.or_false, Nat.blt_eq] at h9
          exact h9
        have h6 := calm_anc hc hdown i y hy hdeps j hji hT
        have h7 := ((hmem j).1 (List.mem_append_left _ hj))
        rw [getD_bit (by omega) false true, h7.2] at h6
        cases h6
      · exact hsw) k
    have hap : pick l.toArray s1 ++ pick l.toArray s2 = pick l.toArray (s1 ++ s2) := by simp [pick]
    rw [hap] at k2
    have hget : ∀ j d, (listed.setIfInBounds i true).getD j d = if j = i then true else listed.getD j d := fun j d => by
      split
      · subst j; have hli : i < listed.size := by omega
        simp [hli]
      · rename_i hne; exact getD_set_ne d (fun e => hne e.symm)
    have step : ∀ St a w, wpK P sr l.toArray Q St (pick l.toArray (s1 ++ s2)) a w → wpAny P .any l.toArray Q fuel (listed.setIfInBounds i true) a w := fun St a w k => by
      refine ih _ (s1 ++ s2) St a w (by simp [hsz]) ?_ ?_ ?_ ?_ k
      · rw [List.pairwise_append]
        exact ⟨hs1, (List.pairwise_cons.1 hs2).2, fun p hp q hq => hs12 p hp q (List.mem_cons_of_mem _ hq)⟩
      · intro j
        rw [hget]
        have hj := hmem j
        simp only [List.mem_append, List.mem_cons] at hj ⊢
        split
        · rename_i e; subst j
          refine ⟨fun h => ?_, fun h => by simp at h⟩
          rcases h with h | h
          · have := hs12 _ h _ List.mem_cons_self; simp at this
          · have := (List.pairwise_cons.1 hs2).1 _ h; simp at this
        · rename_i hne
          simp only [hne, false_or] at hj
          exact hj
      · intro x ox hx hl e he hb
        rw [hget] at hl ⊢
        split
        · rfl
        · split at hl
          · rename_i e2; subst x
            rw [hy] at hx; cases hx
            exact hdeps e he hb
          · exact hdown x ox hx hl e he hb
      · simp only [List.length_append, List.length_cons] at hlen ⊢; omega
    unfold wpOp
    simp only [hy]
    cases hw : Region.wanted y (yielded l.toArray a.tmps) with
    | true => simp only [if_true]; exact .inl (Oper.wp_mono (fun a w ⟨St, h⟩ => step St a w h) (wpK_wp hw k2))
    | false => simp only [Bool.false_eq_true, if_false]; exact step _ _ _ (wpK_off hw k2)
theorem calm_len (hc : calmB P sr l π = true) : π.length = l.length := by
  simp only [calmB, Bool.and_eq_true, List.all_eq_true] at hc
  have hp := pairB_spec hc.1.2
  have hnd : π.Nodup := hp.imp (fun h => by simp only [Bool.and_eq_true, bne_iff_ne] at h; exact h.1)
  have h1 : π.Perm (List.range l.length) := by
    refine (List.perm_ext_iff_of_nodup hnd List.nodup_range).2 fun i => ⟨fun h => ?_, fun h => List.contains_iff_mem.1 (hc.1.1.1.2 i h)⟩
    have := hc.1.1.2 i h
    simpa [Nat.blt_eq] using this
  simpa using h1.length_eq
theorem pick_all (l : List Oper) : pick l.toArray (List.range l.length) = l := by
  have key : ∀ (m p : List Oper), (List.range' p.length m.length).filterMap (fun i => (p ++ m)[i]?) = m := by
    intro m
    induction m with
    | nil => intro p; rfl
    | cons x m ih =>
      intro p
      simp only [List.length_cons, List.range'_succ, List.filterMap_cons]
      have h1 : (p ++ x :: m)[p.length]? = some x := by simp
      rw [h1]
      simp only
      have := ih (p ++ [x])
      simp only [List.length_append, List.length_singleton, List.append_assoc, List.singleton_append] at this
      rw [this]
  have := key l []
  simp only [List.length_nil, List.nil_append] at this
  rw [pick, List.range_eq_range']
  simp only [List.getElem?_toArray]
  rw [this]
theorem wp_region_calm {id : Nat} {a : Act} {w : World} (hm : P.follows .mixedOrders = true) (hQ : Calm Q) (hc : calmB P sr l π = true)
    (h : wpK P sr l.toArray Q [] (pick l.toArray π) a { w with drawn := w.drawn + 1 }) : (Code.region id l.toArray true).wp P Q a w := by
  have hlen := calm_len hc
  have hc2 := hc
  simp only [calmB, Bool.and_eq_true, List.all_eq_true] at hc2
  refine wp_region_any hm (wpAny_of hQ hc _ _ π [] a _ (by simp) (pairB_spec hc2.1.2) (fun i => ?_) (fun x ox hx hl => ?_) (by simp [hlen]) h)
  · simp only [List.size_toArray]
    refine ⟨fun h => ?_, fun h => List.contains_iff_mem.1 (hc2.1.1.1.2 i (List.mem_range.2 h.1))⟩
    have hi : i < l.length := by have := hc2.1.1.2 i h; simpa [Nat.blt_eq] using this
    exact ⟨hi, by simp [hi]⟩
  · exfalso
    have : x < l.length := by have := (Array.getElem?_eq_some_iff.1 hx).1; simpa using this
    simp [this] at hl
end
end Go.SL
namespace Go.SL
abbrev Env := List (Nat × Value)
def get : Env → Nat → Option Value
  | [], _ => none
  | (k, v) :: r, t => bif Nat.beq k t then some v else get r t
def ev (xs : Env) : Operand → Option Value
  | .tmp t => get xs t
  | .const v => some v
  | .global g => some (.pointer (some ⟨g, 0, none⟩))
  | .func f => some (.func (.func f) #[] #[])
structure Ok (n : Nat) (xs : Env) (a : Act) : Prop where
  size : a.tmps.size = n
  defers : a.defers = []
  get : ∀ t v, get xs t = some v → a.tmps[t]? = some v
theorem Ok.ev {n : Nat} {xs : Env} {a : Act} (h : Ok n xs a) {x : Operand} {v : Value} (hx : ev xs x = some v) : a.eval x = v := by
  cases x with
  | tmp t => have := h.get t v hx; simp [Act.eval, this]
  | const u => exact Option.some.inj hx
  | global g => exact Option.some.inj hx
  | func f => exact Option.some.inj hx
def put : Option Tmp → Value → Env → Env
  | some d, v, xs => (d, v) :: xs
  | none, _, xs => xs
def fits (n : Nat) : Option Tmp → Bool
  | some d => Nat.blt d n
  | none => true
theorem Ok.put {n : Nat} {xs : Env} {a : Act} (h : Ok n xs a) {d : Option Tmp} (hd : fits n d = true) (v : Value) : Ok n (put d v xs) (a.put d v) := by
  cases d with
  | none => exact h
  | some d =>
    have hlt : d < n := by simpa [fits, Nat.blt_eq] using hd
    refine ⟨by simp [Act.put, h.size], h.defers, fun t u hu => ?_⟩
    simp only [SL.put, SL.get] at hu
    by_cases e : d = t
    · subst e
      simp only [Nat.beq_refl, cond_true, Option.some.injEq] at hu
      subst hu
      simp [Act.put, h.size, hlt]
    · have hne : Nat.beq d t = false := by rw [← Bool.not_eq_true, Nat.beq_eq]; exact e
      rw [hne, cond_false] at hu
      have := h.get t u hu
      simp [Act.put, e, this]
def Sub : Env → Env → Prop
  | [], _ => True
  | (t, v) :: r, xs => get xs t = some v ∧ Sub r xs
theorem Ok.sub {n : Nat} {xs ys : Env} {a : Act} (h : Ok n xs a) (hs : Sub ys xs) : Ok n ys a := by
  refine ⟨h.size, h.defers, ?_⟩
  induction ys with
  | nil => intro t v hv; cases hv
  | cons p r ih =>
    intro t v hv
    obtain ⟨k, u⟩ := p
    simp only [SL.get] at hv
    by_cases e : k = t
    · subst e
      simp only [Nat.beq_refl, cond_true, Option.some.injEq] at hv
      subst hv
      exact h.get _ _ hs.1
    · have hne : Nat.beq k t = false := by rw [← Bool.not_eq_true, Nat.beq_eq]; exact e
      rw [hne, cond_false] at hv
      exact ih hs.2 t v hv
abbrev Post := Exit → Act → World → Prop
structure W (P : Program) (n : Nat) (o : Outer) (sr : List Tmp) (ops : Array Oper) (Q : Post) (St : List HProp) (rest : List Oper) (xs : Env) (hs : List HProp) : Prop where
  run : ∀ a w, Ok n xs a → Sat o w hs → wpK P sr ops Q St rest a w
structure C (P : Program) (n : Nat) (o : Outer) (Q : Post) (c : Code) (xs : Env) (hs : List HProp) : Prop where
  run : ∀ a w, Ok n xs a → Sat o w hs → c.wp P Q a w
instance {P : Program} {n : Nat} {o : Outer} {sr : List Tmp} {ops : Array Oper} {Q : Post} {St : List HProp} {rest : List Oper} {xs : Env} {hs : List HProp} : CoeFun (W P n o sr ops Q St rest xs hs) (fun _ => ∀ a w, Ok n xs a → Sat o w hs → wpK P sr ops Q St rest a w) := ⟨W.run⟩
instance {P : Program} {n : Nat} {o : Outer} {Q : Post} {c : Code} {xs : Env} {hs : List HProp} : CoeFun (C P n o Q c xs hs) (fun _ => ∀ a w, Ok n xs a → Sat o w hs → c.wp P Q a w) := ⟨C.run⟩
structure E (n : Nat) (o : Outer) (Q : Post) (e : Exit) (xs : Env) (hs : List HProp) : Prop where
  run : ∀ a w, Ok n xs a → Sat o w hs → Q e a w
instance {n : Nat} {o : Outer} {Q : Post} {e : Exit} {xs : Env} {hs : List HProp} : CoeFun (E n o Q e xs hs) (fun _ => ∀ a w, Ok n xs a → Sat o w hs → Q e a w) := ⟨E.run⟩
section
variable {P : Program} {n : Nat} {o : Outer} {sr : List Tmp} {ops : Array Oper} {Q : Post} {St : List HProp} {rest : List Oper} {xs : Env} {hs : List HProp} {ob : Oper}
theorem W.lift {hs' : List HProp} (h : Lift hs hs') (k : W P n o sr ops Q St rest xs hs') : W P n o sr ops Q St rest xs hs := ⟨fun a w ha hw => k a w ha (hw.lift h)⟩
theorem C.lift {c : Code} {hs' : List HProp} (h : Lift hs hs') (k : C P n o Q c xs hs') : C P n o Q c xs hs := ⟨fun a w ha hw => k a w ha (hw.lift h)⟩
theorem C.cut {c : Code} (ys : Env) (hs' : List HProp) (h : Sub ys xs) (e : Lift hs hs') (k : C P n o Q c ys hs') : C P n o Q c xs hs := ⟨fun a w ha hw => k a w (ha.sub h) (hw.lift e)⟩
theorem E.lift {e : Exit} {hs' : List HProp} (h : Lift hs hs') (k : E n o Q e xs hs') : E n o Q e xs hs := ⟨fun a w ha hw => k a w ha (hw.lift h)⟩
theorem C.seq {x y : Code} (h : C P n o (Exit.then (y.wp P Q) Q) x xs hs) : C P n o Q (.seq x y) xs hs := ⟨fun a w ha hw => wp_seq (h a w ha hw)⟩
theorem C.region {id : Nat} {l : List Oper} (h : W P n o [] l.toArray Q [] l xs hs) : C P n o Q (.region id l.toArray false) xs hs := ⟨fun a w ha hw => wp_region_lit (wpList_of _ _ _ _ (h a w ha hw))⟩
theorem C.region_draw (sr : List Tmp) (π : List Nat) {id : Nat} {l : List Oper} (hm : P.follows .mixedOrders = true) (hc : calmB P sr l π = true) (hQ : Calm Q) (h : W P n o sr l.toArray Q [] (pick l.toArray π) xs hs) : C P n o Q (.region id l.toArray true) xs hs :=
  ⟨fun a w ha hw => wp_region_calm hm hQ hc (h a _ ha (hw.drawn _))⟩
theorem C.region_draw0 (sr : List Tmp) {id : Nat} {l : List Oper} (hm : P.follows .mixedOrders = true) (hc : calmB P sr l (List.range l.length) = true) (hQ : Calm Q) (h : W P n o sr l.toArray Q [] l xs hs) : C P n o Q (.region id l.toArray true) xs hs :=
  C.region_draw sr (List.range l.length) hm hc hQ (by rw [pick_all]; exact h)
theorem C.skip (h : E n o Q .normal xs hs) : C P n o Q .skip xs hs := ⟨fun a w ha hw => wp_skip (h a w ha hw)⟩
theorem C.ret (h : E n o Q .ret xs hs) : C P n o Q .ret xs hs := ⟨fun a w ha hw => wp_ret (h a w ha hw)⟩
theorem C.exit {id : Nat} (h : E n o Q (.exit id) xs hs) : C P n o Q (.exit id) xs hs := ⟨fun a w ha hw => wp_exit (h a w ha hw)⟩
theorem C.block {id : Nat} {c : Code} (h : C P n o (Exit.inBlock id Q) c xs hs) : C P n o Q (.block id c) xs hs := ⟨fun a w ha hw => wp_block (h a w ha hw)⟩
theorem C.cond {c : Operand} {x y : Code} {b : Bool} (hc : ev xs c = some (.bool b)) (ht : b = true → C P n o Q x xs hs) (hf : b = false → C P n o Q y xs hs) : C P n o Q (.cond c x y) xs hs :=
  ⟨fun a w ha hw => wp_cond_split (ha.ev hc) (fun e => ht e a w ha hw) (fun e => hf e a w ha hw)⟩
theorem C.cond_true {c : Operand} {x y : Code} (hc : ev xs c = some (.bool true)) (ht : C P n o Q x xs hs) : C P n o Q (.cond c x y) xs hs :=
  ⟨fun a w ha hw => wp_cond_true (ha.ev hc) (ht a w ha hw)⟩
theorem C.cond_false {c : Operand} {x y : Code} (hc : ev xs c = some (.bool false)) (ht : C P n o Q y xs hs) : C P n o Q (.cond c x y) xs hs :=
  ⟨fun a w ha hw => wp_cond_false (ha.ev hc) (ht a w ha hw)⟩
theorem C.loop {σ : Type} (I : σ → Prop) (X : σ → Env) (H : σ → List HProp) (m : σ → Nat) (s : σ) {c : Code} (hi : I s) (hx : Sub (X s) xs) (hh : Ent hs (H s) [])
    (round : ∀ s, I s → C P n o (Exit.then (fun a w => ∃ s', (I s' ∧ m s' < m s) ∧ Ok n (X s') a ∧ Sat o w (H s')) Q) c (X s) (H s)) : C P n o Q (.loop c) xs hs := by
  constructor; intro a w ha hw
  refine wp_loop_ghost (fun k a w => ∃ s, (I s ∧ m s = k) ∧ Ok n (X s) a ∧ Sat o w (H s)) (m s) ⟨s, ⟨hi, rfl⟩, ha.sub hx, by have := hw.lift hh.lift; rwa [List.append_nil] at this⟩ ?_
  rintro k a w ⟨s, ⟨hi, rfl⟩, ha, hw⟩
  refine wp_mono (round s hi a w ha hw) ?_
  intro e a' w' hq
  cases e with
  | normal => obtain ⟨s', ⟨h0, h1⟩, h2, h3⟩ := hq; exact ⟨m s', h1, s', ⟨h0, rfl⟩, h2, h3⟩
  | exit id => exact hq
  | goto l => exact hq
  | ret => exact hq
  | panic ch => exact hq
  | outgrown => exact hq
theorem W.nil (h : E n o Q .normal xs hs) : W P n o sr ops Q St [] xs hs := ⟨fun a w ha hw => h a w ha hw⟩
theorem E.then_normal {y : Code} (h : C P n o Q y xs hs) : E n o (Exit.then (y.wp P Q) Q) .normal xs hs := ⟨fun a w ha hw => h a w ha hw⟩
theorem E.then_exit {K : Act → World → Prop} {id : Nat} (h : E n o Q (.exit id) xs hs) : E n o (Exit.then K Q) (.exit id) xs hs := ⟨fun a w ha hw => h a w ha hw⟩
theorem E.then_ret {K : Act → World → Prop} (h : E n o Q .ret xs hs) : E n o (Exit.then K Q) .ret xs hs := ⟨fun a w ha hw => h a w ha hw⟩
theorem E.block_normal {id : Nat} (h : E n o Q .normal xs hs) : E n o (Exit.inBlock id Q) .normal xs hs := ⟨fun a w ha hw => h a w ha hw⟩
theorem E.block_ret {id : Nat} (h : E n o Q .ret xs hs) : E n o (Exit.inBlock id Q) .ret xs hs := ⟨fun a w ha hw => h a w ha hw⟩
theorem E.block_exit {id : Nat} (h : E n o Q .normal xs hs) : E n o (Exit.inBlock id Q) (.exit id) xs hs := by
  constructor; intro a w ha hw
  show if id = id then Q .normal a w else Q (.exit id) a w
  rw [if_pos rfl]; exact h a w ha hw
theorem E.block_past {id id' : Nat} (hne : Nat.beq id' id = false) (h : E n o Q (.exit id') xs hs) : E n o (Exit.inBlock id Q) (.exit id') xs hs := by
  constructor; intro a w ha hw
  show if id' = id then Q .normal a w else Q (.exit id') a w
  rw [if_neg (fun e => by subst e; simp at hne)]; exact h a w ha hw
theorem E.round {σ : Type} {I : σ → Prop} {X : σ → Env} {H : σ → List HProp} {m : σ → Nat} {k : Nat} (s' : σ) (hi : I s') (hm : m s' < k) (hx : Sub (X s') xs) (hh : Ent hs (H s') []) :
    E n o (Exit.then (fun a w => ∃ s', (I s' ∧ m s' < k) ∧ Ok n (X s') a ∧ Sat o w (H s')) Q) .normal xs hs :=
  ⟨fun _ _ ha hw => ⟨s', ⟨hi, hm⟩, ha.sub hx, by have := hw.lift hh.lift; rwa [List.append_nil] at this⟩⟩
structure Trip (P : Program) (f : FuncId) (args : List Value) (Pre : List HProp) (q : Value → List HProp → Prop) : Prop where
  run : ∀ (o : Outer) (w : World) (Rs : List HProp), Sat o w (Pre ++ Rs) → Calls P f args.toArray w fun e w' => ∃ v Ps, e = .returned v ∧ q v Ps ∧ Sat o w' (Ps ++ Rs)
def enumFrom : Nat → List Value → Env
  | _, [] => []
  | k, v :: r => (k, v) :: enumFrom (k + 1) r
theorem get_enumFrom : ∀ (k : Nat) (l : List Value) (t : Nat) (v : Value), get (enumFrom k l) t = some v → k ≤ t ∧ l[t - k]? = some v
  | _, [], _, _, h => by cases h
  | k, u :: r, t, v, h => by
    simp only [enumFrom, get] at h
    by_cases e : k = t
    · subst e; simp only [Nat.beq_refl, cond_true] at h; simpa using h
    · have hne : Nat.beq k t = false := by rw [← Bool.not_eq_true, Nat.beq_eq]; exact e
      rw [hne, cond_false] at h
      obtain ⟨h1, h2⟩ := get_enumFrom (k + 1) r t v h
      refine ⟨by omega, ?_⟩
      rw [show t - k = (t - (k + 1)) + 1 from by omega]; simpa using h2
def bodyQ (P : Program) (fn : Func) (o : Outer) (Rs : List HProp) (q : Value → List HProp → Prop) : Post :=
  bodyPost P fn (fun e w' => ∃ v Ps, e = .returned v ∧ q v Ps ∧ Sat o w' (Ps ++ Rs))
theorem Trip.of {f : FuncId} {fn : Func} {c : Code} {m : Nat} {args : List Value} {Pre : List HProp} {q : Value → List HProp → Prop} (hf : P.funcs[f]? = some fn) (hb : fn.body = some c)
    (hm : fn.ntmps = m) (hn : Nat.ble args.length m = true)
    (h : ∀ (o : Outer) (Rs : List HProp), C P m o (bodyQ P fn o Rs q) c (enumFrom 0 args) (Pre ++ Rs)) : Trip P f args Pre q := by
  constructor; intro o w Rs hw
  subst hm
  refine calls_of_wp hf hb (h o Rs _ _ ⟨?_, rfl, fun t v hv => ?_⟩ hw)
  · have := Nat.le_of_ble_eq_true hn; simp; omega
  · obtain ⟨_, h2⟩ := get_enumFrom 0 args t v hv
    have ht : t < args.length := by
      have := (List.getElem?_eq_some_iff.1 h2).1; omega
    rw [Nat.sub_zero] at h2
    rw [Array.getElem?_append_left (by simpa using ht)]
    simpa using h2
theorem calm_body {fn : Func} {Rs : List HProp} {q : Value → List HProp → Prop} : Calm (bodyQ P fn o Rs q) :=
  ⟨fun c a w h => (by obtain ⟨_, v, Ps, e, _⟩ := h; cases e), fun a w h => (by obtain ⟨v, Ps, e, _⟩ := h; cases e)⟩
theorem E.body {fn : Func} {Rs Ps : List HProp} {q : Value → List HProp → Prop} {e : Exit} (he : e = .ret ∨ e = .normal) (v : Value)
    (hr : ∀ a w, Ok n xs a → Sat o w hs → (results fn a.tmps).run P w = .ok v w) (hq : q v Ps) (hh : Ent hs Ps Rs) : E n o (bodyQ P fn o Rs q) e xs hs := by
  constructor; intro a w ha hw
  have : bodyPost P fn (fun e w' => ∃ v Ps, e = .returned v ∧ q v Ps ∧ Sat o w' (Ps ++ Rs)) .ret a w :=
    ⟨ha.defers, v, hr a w ha hw, v, Ps, rfl, hq, hw.lift hh.lift⟩
  rcases he with rfl | rfl
  · exact this
  · exact this
theorem E.body0 {fn : Func} (hf : fn.results = #[]) {Rs Ps : List HProp} {q : Value → List HProp → Prop} {e : Exit} (he : e = .ret ∨ e = .normal)
    (hq : q (.tuple #[]) Ps) (hh : Ent hs Ps Rs) : E n o (bodyQ P fn o Rs q) e xs hs :=
  E.body he _ (fun a w _ _ => results_none hf a.tmps P w) hq hh
theorem E.body1 {fn : Func} {t : Tmp} (hf : fn.results = #[.tmp t]) {Rs Ps : List HProp} {q : Value → List HProp → Prop} {e : Exit} (he : e = .ret ∨ e = .normal) {v : Value}
    (hv : get xs t = some v) (hq : q v Ps) (hh : Ent hs Ps Rs) : E n o (bodyQ P fn o Rs q) e xs hs :=
  E.body he _ (fun a w ha _ => by rw [results_tmp hf, Array.getD_eq_getD_getElem?, ha.get t v hv]; rfl) hq hh
theorem E.body2 {fn : Func} {t u : Tmp} (hf : fn.results = #[.tmp t, .tmp u]) {Rs Ps : List HProp} {q : Value → List HProp → Prop} {e : Exit} (he : e = .ret ∨ e = .normal) {v v' : Value}
    (hv : get xs t = some v) (hv' : get xs u = some v') (hq : q (.tuple #[v, v']) Ps) (hh : Ent hs Ps Rs) : E n o (bodyQ P fn o Rs q) e xs hs :=
  E.body he _ (fun a w ha _ => by rw [results_tmp2 hf, Array.getD_eq_getD_getElem?, Array.getD_eq_getD_getElem?, ha.get t v hv, ha.get u v' hv']; rfl) hq hh
inductive Incl : List HProp → List HProp → Prop
  | nil {hs : List HProp} : Incl [] hs
  | cons {R : HProp} {St hs r : List HProp} : Find hs R r → Incl St hs → Incl (R :: St) hs
theorem Find.mem {hs : List HProp} {A : HProp} {r : List HProp} (h : Find hs A r) : A ∈ hs := by
  induction h with
  | here => exact List.mem_cons_self
  | there _ ih => exact List.mem_cons_of_mem _ ih
theorem Sat.holds {w : World} {R : HProp} (h : Sat o w hs) (hR : R ∈ hs) : SL.holds R w := by
  obtain ⟨_, l, h1, h2, _⟩ := h
  subst h1
  obtain ⟨p, hp, rfl⟩ := List.mem_map.1 hR
  exact ⟨p.2, h2 p hp⟩
theorem Incl.holds {w : World} (h : Incl St hs) (hs' : Sat o w hs) : ∀ R ∈ St, SL.holds R w := by
  induction h with
  | nil => intro R hR; cases hR
  | cons hf _ ih =>
    intro R hR
    rcases List.mem_cons.1 hR with e | hR
    · exact e ▸ hs'.holds hf.mem
    · exact ih hs' R hR
theorem Incl.there {A : HProp} (h : Incl St hs) : Incl St (A :: hs) := by
  induction h with
  | nil => exact .nil
  | cons hf _ ih => exact .cons (.there hf) ih
theorem Find.app {Ps hs r : List HProp} {A : HProp} (h : Find hs A r) : Find (Ps ++ hs) A (Ps ++ r) := by
  induction Ps with
  | nil => exact h
  | cons P Ps ih => exact .there ih
theorem Incl.app {Ps : List HProp} (h : Incl St hs) : Incl St (Ps ++ hs) := by
  induction h with
  | nil => exact .nil
  | cons hf _ ih => exact .cons hf.app ih
theorem W.op (hg : ob.guard = none) (hk : kind P ob.op = .eff) (hd : fits n ob.dst = true)
    (h : ∀ a w, Ok n xs a → Sat o w hs → ∃ v w' hs', (execOp a.eval ob).run P w = .ok (.value v) w' ∧ Sat o w' hs' ∧ Incl St hs' ∧ W P n o sr ops Q St rest (put ob.dst v xs) hs') :
    W P n o sr ops Q St (ob :: rest) xs hs := by
  constructor; intro a w ha hw
  obtain ⟨v, w', hs', hr, hw', hi, k⟩ := h a w ha hw
  rw [wpK, if_pos (by simp [Region.wanted, hg]), hk]
  simp only [Oper.wp, hr, Oper.upon_value]
  exact ⟨fun _ => hi.holds hw', k _ _ (ha.put hd v) hw'⟩
inductive Keep (b : Bool) : List HProp → List HProp → Prop
  | nil {hs : List HProp} : Keep b [] hs
  | free {St hs : List HProp} (h : b = true) : Keep b St hs
  | incl {St hs : List HProp} (h : Incl St hs) : Keep b St hs
theorem Keep.there {b : Bool} {A : HProp} (h : Keep b St hs) : Keep b St (A :: hs) := by
  cases h with
  | nil => exact .nil
  | free h => exact .free h
  | incl h => exact .incl (h.app (Ps := [A]))
theorem Keep.holds {b : Bool} {w : World} (h : Keep b St hs) (hw : Sat o w hs) (hb : b = false) : ∀ R ∈ St, SL.holds R w := by
  cases h with
  | nil => intro R hR; cases hR
  | free h => rw [h] at hb; cases hb
  | incl h => exact h.holds hw
theorem W.op_skip (hg : ob.guard = none) (hk : kind P ob.op = .eff) (hd : ob.dst = none)
    (h : ∀ a w, Ok n xs a → Sat o w hs → ∃ w' hs', (execOp a.eval ob).run P w = .ok .skip w' ∧ Sat o w' hs' ∧ Keep (freeSt sr ops ob) St hs' ∧ W P n o sr ops Q St rest xs hs') :
    W P n o sr ops Q St (ob :: rest) xs hs := by
  constructor; intro a w ha hw
  obtain ⟨w', hs', hr, hw', hI, k⟩ := h a w ha hw
  rw [wpK, if_pos (by simp [Region.wanted, hg]), hk]
  simp only [Oper.wp, hr, Oper.upon_skip, hd]
  exact ⟨fun hb => hI.holds hw' hb, k _ _ ha hw'⟩
theorem W.val {v : Value} (hg : ob.guard = none) (hk : kind P ob.op ≠ .eff) (hd : fits n ob.dst = true) (h : ∀ a, ∀ w, Ok n xs a → (execOp a.eval ob).run P w = .ok (.value v) w)
    (k : W P n o sr ops Q St rest (put ob.dst v xs) hs) : W P n o sr ops Q St (ob :: rest) xs hs := by
  constructor; intro a w ha hw
  have kk := k _ _ (ha.put hd v) hw
  have hT : ∀ w, SL.holds (fun f => f = emp) w := fun w => ⟨emp, rfl, Holds.emp w⟩
  rw [wpK, if_pos (by simp [Region.wanted, hg])]
  cases e : kind P ob.op with
  | pure => exact ⟨v, fun w' => h a w' ha, kk⟩
  | read =>
    simp only
    split
    · exact ⟨v, _, fun w' _ => h a w' ha, hT w, wpK_add hT (fun R hR => by rcases List.mem_cons.1 hR with e | hR; exact .inr e; exact .inl hR) kk⟩
    · exact ⟨v, h a w ha, kk⟩
  | eff => exact absurd e hk
theorem W.read {v : Value} (hg : ob.guard = none) (hk : kind P ob.op = .read) (hs0 : stb sr ob = false) (hd : fits n ob.dst = true) (h : ∀ a w, Ok n xs a → Sat o w hs → (execOp a.eval ob).run P w = .ok (.value v) w)
    (k : W P n o sr ops Q St rest (put ob.dst v xs) hs) : W P n o sr ops Q St (ob :: rest) xs hs := by
  constructor; intro a w ha hw
  have kk := k _ _ (ha.put hd v) hw
  rw [wpK, if_pos (by simp [Region.wanted, hg]), hk]
  simp only [hs0, Bool.false_eq_true, if_false]
  exact ⟨v, h a w ha hw, kk⟩
theorem W.stay {v : Value} {R : HProp} {r : List HProp} (hg : ob.guard = none) (hk : kind P ob.op = .read) (hs0 : stb sr ob = true) (hd : fits n ob.dst = true) (hf : Find hs R r)
    (h : ∀ a w, Ok n xs a → SL.holds R w → (execOp a.eval ob).run P w = .ok (.value v) w)
    (k : W P n o sr ops Q (R :: St) rest (put ob.dst v xs) hs) : W P n o sr ops Q St (ob :: rest) xs hs := by
  constructor; intro a w ha hw
  have kk := k _ _ (ha.put hd v) hw
  rw [wpK, if_pos (by simp [Region.wanted, hg]), hk]
  simp only [hs0, if_true]
  exact ⟨v, R, fun w' h' => h a w' ha h', hw.holds hf.mem, kk⟩
theorem W.guard_yes {d : Option Tmp} {op : Op} {ty : TypeId} {pos : String} {af : Array Edge} {j : Nat} {want : Bool} {t : Tmp} (hj : (ops[j]?).bind (·.dst) = some t) (hb : get xs t = some (.bool want))
    (k : W P n o sr ops Q St (⟨d, op, ty, pos, af, none⟩ :: rest) xs hs) : W P n o sr ops Q St (⟨d, op, ty, pos, af, some (j, want)⟩ :: rest) xs hs := by
  constructor; intro a w ha hw
  have := k a w ha hw
  have h1 : yielded ops a.tmps j = some want := by simp [yielded, hj, ha.get t _ hb]
  rw [wpK, if_pos (by simp [Region.wanted])] at this
  rw [wpK, if_pos (by simp [Region.wanted, h1])]
  exact this
theorem W.guard_no {d : Option Tmp} {op : Op} {ty : TypeId} {pos : String} {af : Array Edge} {j : Nat} {want b : Bool} {t : Tmp} (hj : (ops[j]?).bind (·.dst) = some t) (hb : get xs t = some (.bool b))
    (hne : b = !want) (hd : fits n d = true) (k : W P n o sr ops Q St rest (put d undef xs) hs) : W P n o sr ops Q St (⟨d, op, ty, pos, af, some (j, want)⟩ :: rest) xs hs := by
  constructor; intro a w ha hw
  have h1 : yielded ops a.tmps j = some b := by simp [yielded, hj, ha.get t _ hb]
  rw [wpK, if_neg (by subst hne; simp [Region.wanted, h1])]
  exact k _ _ (ha.put hd _) hw
end
end Go.SL
namespace Go.SL
class FieldOff (P : Program) (s f : Nat) (off : outParam Nat) : Prop where
  run : ∀ a w, (Instr.fieldAt s (.pointer (some a)) f).run P w = .ok (.pointer (some (a.add off))) w
def fieldOffB (P : Program) (s f : Nat) : Option Nat :=
  match P.underlying s with
  | some (.struct fs) => match fs[f]? with
    | some fl => match P.info? fl.type with
      | some i => if i.size = 0 then none else some fl.offset
      | none => none
    | none => none
  | _ => none
theorem FieldOff.of {P : Program} {s f off : Nat} (h : fieldOffB P s f = some off) : FieldOff P s f off := by
  refine ⟨fun a w => ?_⟩
  unfold fieldOffB at h
  split at h
  · rename_i fs hs
    split at h
    · rename_i fl hf
      split at h
      · rename_i i hi
        split at h
        · cases h
        · rename_i hz
          simp only [Option.some.injEq] at h
          subst h
          simp [Instr.fieldAt, run_underlying hs, hf, Instr.sureAddr, fieldPlace, sizeOf, typeInfo, hi, hz]
      · cases h
    · cases h
  · cases h
class One (P : Program) (t : TypeId) : Prop where
  agg : ∀ w, (isAgg t).run P w = .ok false w
  size : ∀ w, (sizeOf t).run P w = .ok 1 w
def oneB (P : Program) (t : TypeId) : Bool :=
  (match P.underlying t with | some (.struct _) | some (.array ..) | none => false | some _ => true) && (match P.info? t with | some i => i.size == 1 | none => false)
theorem One.of {P : Program} {t : TypeId} (h : oneB P t = true) : One P t := by
  simp only [oneB, Bool.and_eq_true] at h
  obtain ⟨h1, h2⟩ := h
  constructor
  · intro w
    unfold isAgg
    cases hu : P.underlying t with
    | none => rw [hu] at h1; cases h1
    | some d => rw [hu] at h1; simp only [Sem.run_bind, run_underlying hu, Result.andThen_ok]; cases d <;> first | rfl | cases h1
  · intro w
    cases hi : P.info? t with
    | none => rw [hi] at h2; cases h2
    | some i => rw [hi] at h2; simp only [beq_iff_eq] at h2; simp [sizeOf, typeInfo, hi, h2]
class AggTy (P : Program) (t : TypeId) (n : outParam Nat) : Prop where
  agg : ∀ w, (isAgg t).run P w = .ok true w
  size : ∀ w, (sizeOf t).run P w = .ok n w
def aggB (P : Program) (t : TypeId) : Option Nat :=
  match P.underlying t with
  | some (.struct _) | some (.array ..) => (P.info? t).map (·.size)
  | _ => none
theorem AggTy.of {P : Program} {t n : TypeId} (h : aggB P t = some n) : AggTy P t n := by
  unfold aggB at h
  constructor
  · intro w
    unfold isAgg
    cases hu : P.underlying t with
    | none => rw [hu] at h; cases h
    | some d => rw [hu] at h; simp only [Sem.run_bind, run_underlying hu, Result.andThen_ok]; cases d <;> first | rfl | cases h
  · intro w
    have : (P.info? t).map (·.size) = some n := by
      cases hu : P.underlying t with
      | none => rw [hu] at h; cases h
      | some d => rw [hu] at h; cases d <;> first | exact h | cases h
    cases hi : P.info? t with
    | none => rw [hi] at this; cases this
    | some i => rw [hi] at this; simp only [Option.map_some, Option.some.injEq] at this; simp [sizeOf, typeInfo, hi, this]
class Zero (P : Program) (t : TypeId) (v : outParam Value) : Prop where
  run : ∀ w, (zeroValue t).run P w = .ok v w
theorem Zero.of {P : Program} {t : TypeId} {v : Value} (h : (P.info? t).bind (·.zero) = some v) : Zero P t v := by
  refine ⟨fun w => ?_⟩
  cases hi : P.info? t with
  | none => rw [hi] at h; cases h
  | some i => rw [hi] at h; simp only [Option.bind_some] at h; simp [zeroValue, typeInfo, hi, h]
class SliceTy (P : Program) (t : TypeId) (e sz bytes : outParam Nat) : Prop where
  und : P.underlying t = some (.slice e)
  info : ∃ i z, P.info? e = some i ∧ i.size = sz ∧ i.bytes = bytes ∧ i.zero = some z ∧ z.cells.size = sz
  pos : 0 < sz
def sliceB (P : Program) (t : TypeId) : Option (Nat × Nat × Nat) :=
  match P.underlying t with
  | some (.slice e) => match P.info? e with
    | some i => match i.zero with
      | some z => if z.cells.size = i.size ∧ 0 < i.size then some (e, i.size, i.bytes) else none
      | none => none
    | none => none
  | _ => none
theorem SliceTy.of {P : Program} {t e sz bytes : Nat} (h : sliceB P t = some (e, sz, bytes)) : SliceTy P t e sz bytes := by
  unfold sliceB at h
  split at h
  · rename_i e' hu
    split at h
    · rename_i i hi
      split at h
      · rename_i z hz
        split at h
        · rename_i hc
          simp only [Option.some.injEq, Prod.mk.injEq] at h
          obtain ⟨rfl, rfl, rfl⟩ := h
          exact ⟨hu, ⟨i, z, hi, rfl, rfl, hz, hc.1⟩, hc.2⟩
        · cases h
      · cases h
    · cases h
  · cases h
class Callable (P : Program) (f : FuncId) : Prop where
  run : ∀ args w, (callFunc f args).run P w = .ok (.enter f args) w
def callableB (P : Program) (f : FuncId) : Bool := match P.funcs[f]? with | some fn => fn.name != "runtime.NumGoroutine" && fn.body.isSome | none => false
theorem Callable.of {P : Program} {f : FuncId} (h : callableB P f = true) : Callable P f := by
  refine ⟨fun args w => ?_⟩
  unfold callableB at h
  split at h
  · rename_i fn hf
    simp only [Bool.and_eq_true, bne_iff_ne, Option.isSome_iff_ne_none] at h
    simp [callFunc, hf, h.1, h.2]
  · cases h
class StrTy (P : Program) (t : TypeId) : Prop where
  und : P.underlying t = some .string
class IntTy (P : Program) (t : TypeId) (k : outParam IntKind) : Prop where
  und : P.underlying t = some (.int k)
section
variable {P : Program} {n : Nat} {o : Outer} {sr : List Tmp} {ops : Array Oper} {Q : Post} {St : List HProp} {rest : List Oper} {xs : Env} {hs : List HProp}
variable {d : Option Tmp} {ty : TypeId} {pos : String} {af : Array Edge}
theorem W.move {x : Operand} {v : Value} (hx : ev xs x = some v) (hd : fits n d = true) (k : W P n o sr ops Q St rest (put d v xs) hs) : W P n o sr ops Q St (⟨d, .move x, ty, pos, af, none⟩ :: rest) xs hs :=
  W.val rfl (by simp only [kind]; first | (intro h; cases h; done) | (repeat' split) <;> (intro h; cases h)) hd (fun a w ha => by simp [execOp, ha.ev hx]) k
theorem W.assign {x : Operand} {v : Value} (hx : ev xs x = some v) (hd : fits n d = true) (k : W P n o sr ops Q St rest (put d v xs) hs) : W P n o sr ops Q St (⟨d, .assign x, ty, pos, af, none⟩ :: rest) xs hs :=
  W.val rfl (by simp only [kind]; first | (intro h; cases h; done) | (repeat' split) <;> (intro h; cases h)) hd (fun a w ha => by simp [execOp, ha.ev hx]) k
theorem W.pick_true {c x y : Operand} {v : Value} (hc : ev xs c = some (.bool true)) (hx : ev xs x = some v) (hd : fits n d = true) (k : W P n o sr ops Q St rest (put d v xs) hs) :
    W P n o sr ops Q St (⟨d, .pick c x y, ty, pos, af, none⟩ :: rest) xs hs :=
  W.val rfl (by simp only [kind]; first | (intro h; cases h; done) | (repeat' split) <;> (intro h; cases h)) hd (fun a w ha => by simp [execOp, ha.ev hc, ha.ev hx, asBool]) k
theorem W.pick_false {c x y : Operand} {v : Value} (hc : ev xs c = some (.bool false)) (hx : ev xs y = some v) (hd : fits n d = true) (k : W P n o sr ops Q St rest (put d v xs) hs) :
    W P n o sr ops Q St (⟨d, .pick c x y, ty, pos, af, none⟩ :: rest) xs hs :=
  W.val rfl (by simp only [kind]; first | (intro h; cases h; done) | (repeat' split) <;> (intro h; cases h)) hd (fun a w ha => by simp [execOp, ha.ev hc, ha.ev hx, asBool]) k
theorem W.nilCheck {x : Operand} {p : Addr} (hx : ev xs x = some (.pointer (some p))) (hd : fits n d = true) (k : W P n o sr ops Q St rest (put d (.pointer (some p)) xs) hs) :
    W P n o sr ops Q St (⟨d, .nilCheck x, ty, pos, af, none⟩ :: rest) xs hs :=
  W.val rfl (by simp only [kind]; first | (intro h; cases h; done) | (repeat' split) <;> (intro h; cases h)) hd (fun a w ha => by simp [execOp, ha.ev hx]) k
theorem add_off (b i k : Nat) : (⟨b, i, none⟩ : Addr).add k = ⟨b, i + k, none⟩ := by
  unfold Addr.add; split <;> simp_all
theorem W.field {s f off b i j : Nat} {x : Operand} [hf : FieldOff P s f off] (hx : ev xs x = some (.pointer (some ⟨b, i, none⟩))) (hj : i + off = j) (hd : fits n d = true)
    (k : W P n o sr ops Q St rest (put d (.pointer (some ⟨b, j, none⟩)) xs) hs) : W P n o sr ops Q St (⟨d, .fieldAddr s x f, ty, pos, af, none⟩ :: rest) xs hs :=
  W.val rfl (by simp only [kind]; first | (intro h; cases h; done) | (repeat' split) <;> (intro h; cases h)) hd (fun a w ha => by
    show ((Instr.fieldAt s (a.eval x) f) >>= fun v => pure (Next.value v)).run P w = _
    rw [ha.ev hx, Sem.run_bind, hf.run, add_off, hj]; rfl) k
theorem W.load_of {t b i : Nat} {x : Operand} {v : Value} [h1 : One P t] (hx : ev xs x = some (.pointer (some ⟨b, i, none⟩))) (hc : ∀ w, Sat o w hs → w.cell? ⟨b, i, none⟩ = some v) (hns : stbD sr d = false) (hd : fits n d = true)
    (k : W P n o sr ops Q St rest (put d v xs) hs) : W P n o sr ops Q St (⟨d, .load t x, ty, pos, af, none⟩ :: rest) xs hs :=
  W.read rfl (by simp [kind]) hns hd (fun a w ha hw => by
    show ((Instr.loadAt t (a.eval x)) >>= fun v => pure (Next.value v)).run P w = _
    rw [ha.ev hx, Sem.run_bind]
    simp [Instr.loadAt, Instr.sureAddr, loadVar, h1.agg, hc w hw]) k
theorem W.load {t b i T : Nat} {x : Operand} {v : Value} {cs : List Value} {r : List HProp} [h1 : One P t] (hx : ev xs x = some (.pointer (some ⟨b, i, none⟩))) (hf : Find hs (blk b T cs) r) (hv : cs[i]? = some v)
    (hns : stbD sr d = false) (hd : fits n d = true) (k : W P n o sr ops Q St rest (put d v xs) hs) : W P n o sr ops Q St (⟨d, .load t x, ty, pos, af, none⟩ :: rest) xs hs :=
  W.load_of hx (fun _ hw => (hw.lift hf.lift).blk_cell hv) hns hd k
theorem W.stay_of {t b i : Nat} {x : Operand} {v : Value} {R : HProp} {r : List HProp} [h1 : One P t] (hx : ev xs x = some (.pointer (some ⟨b, i, none⟩))) (hf : Find hs R r) (hc : ∀ w, SL.holds R w → w.cell? ⟨b, i, none⟩ = some v)
    (hns : stbD sr d = true) (hd : fits n d = true) (k : W P n o sr ops Q (R :: St) rest (put d v xs) hs) : W P n o sr ops Q St (⟨d, .load t x, ty, pos, af, none⟩ :: rest) xs hs :=
  W.stay rfl (by simp [kind]) hns hd hf (fun a w ha hw => by
    show ((Instr.loadAt t (a.eval x)) >>= fun v => pure (Next.value v)).run P w = _
    rw [ha.ev hx, Sem.run_bind]
    simp [Instr.loadAt, Instr.sureAddr, loadVar, h1.agg, hc w hw]) k
theorem W.load_stay {t b i T : Nat} {x : Operand} {v : Value} {cs : List Value} {r : List HProp} [h1 : One P t] (hx : ev xs x = some (.pointer (some ⟨b, i, none⟩))) (hf : Find hs (blk b T cs) r) (hv : cs[i]? = some v)
    (hns : stbD sr d = true) (hd : fits n d = true) (k : W P n o sr ops Q (blk b T cs :: St) rest (put d v xs) hs) : W P n o sr ops Q St (⟨d, .load t x, ty, pos, af, none⟩ :: rest) xs hs :=
  W.stay_of hx hf (fun w hw => by
    obtain ⟨f, ⟨fr, _, rfl⟩, hf⟩ := hw
    have hb := hf b _ (one_self _ _)
    simp [World.cell?, hb, hv]) hns hd k
inductive SetAt : List Value → Nat → Value → List Value → Prop
  | here {x v : Value} {r : List Value} : SetAt (x :: r) 0 v (v :: r)
  | there {x v : Value} {i : Nat} {r r' : List Value} : SetAt r i v r' → SetAt (x :: r) (i + 1) v (x :: r')
theorem SetAt.eq {cs cs' : List Value} {i : Nat} {v : Value} (h : SetAt cs i v cs') : cs.set i v = cs' ∧ i < cs.length := by
  induction h with
  | here => exact ⟨rfl, by simp⟩
  | there _ ih => exact ⟨by rw [List.set_cons_succ, ih.1], by simp; exact ih.2⟩
theorem W.store {t b i T : Nat} {x y : Operand} {v : Value} {cs : List Value} {r : List HProp} [h1 : One P t] (hx : ev xs x = some (.pointer (some ⟨b, i, none⟩))) (hy : ev xs y = some v) (h0 : v.oneCell' = true)
    (hf : Find hs (blk b T cs) r) {cs' : List Value} (hi : SetAt cs i v cs') (hI : Keep (freeSt sr ops ⟨none, .store t x y, ty, pos, af, none⟩) St (blk b T cs' :: r)) (k : W P n o sr ops Q St rest xs (blk b T cs' :: r)) :
    W P n o sr ops Q St (⟨none, .store t x y, ty, pos, af, none⟩ :: rest) xs hs :=
  W.op_skip rfl rfl rfl fun a w ha hw => by
    have hw' := hw.lift hf.lift
    obtain ⟨rfl, hlt⟩ := hi.eq
    have hcell := hw'.blk_cell (List.getElem?_eq_getElem hlt)
    refine ⟨w.setCell ⟨b, i, none⟩ v, _, ?_, hw'.store i v, hI, k⟩
    show ((Instr.storeAt t (a.eval x) (a.eval y)) >>= fun _ => pure Next.skip).run P w = _
    have hcs : v.cells = #[v] := by cases v <;> first | rfl | cases h0
    rw [ha.ev hx, ha.ev hy, Sem.run_bind]
    simp [Instr.storeAt, Instr.sureAddr, storeVar, h1.size, hcs, storeCells, run_store, h0, hcell, hw'.blk_thawed hlt, Addr.add]
theorem W.alloc {t : Nat} {z : Value} [hz : Zero P t z] (hd : fits n d = true) (hI : Incl St hs) (k : ∀ b, W P n o sr ops Q St rest (put d (.pointer (some ⟨b, 0, none⟩)) xs) (blk b t z.cells.toList :: hs)) :
    W P n o sr ops Q St (⟨d, .alloc t, ty, pos, af, none⟩ :: rest) xs hs :=
  W.op rfl rfl hd fun a w ha hw => ⟨_, _, _, by
    show ((Instr.alloc t true (.tuple #[])) >>= fun v => pure (Next.value v)).run P w = _
    rw [Sem.run_bind]; simp [Instr.alloc, hz.run, newVar, newRow]; exact ⟨rfl, rfl⟩, by have := hw.alloc t z.cells.toList; rw [Array.toArray_toList] at this; exact this, hI.there, k _⟩
theorem W.box {t : Nat} {x : Operand} {v : Value} (hx : ev xs x = some v) (hd : fits n d = true) (hI : Incl St hs) (k : ∀ b, W P n o sr ops Q St rest (put d (.pointer (some ⟨b, 0, none⟩)) xs) (blk b t v.cells.toList :: hs)) :
    W P n o sr ops Q St (⟨d, .box t x, ty, pos, af, none⟩ :: rest) xs hs :=
  W.op rfl rfl hd fun a w ha hw => ⟨_, _, _, by
    show ((Instr.box t (a.eval x)) >>= fun v => pure (Next.value v)).run P w = _
    rw [Sem.run_bind, ha.ev hx]; simp [Instr.box, newVar, newRow]; exact ⟨rfl, rfl⟩, by have := hw.alloc t v.cells.toList; rw [Array.toArray_toList] at this; exact this, hI.there, k _⟩
theorem W.callo {f : FuncId} {args : List Value} {xargs : Array Operand} {ats : Array TypeId} {Pre Rs : List HProp} {q : Value → List HProp → Prop}
    [hc : Callable P f] (hs0 : Trip P f args Pre q) (hargs : xargs.toList.map (ev xs) = args.map some) (he : Ent hs Pre Rs) (hd : fits n d = true) (hI : freeSt sr ops ⟨d, .call { callee := .value (.func f), args := xargs, argTypes := ats }, ty, pos, af, none⟩ = true ∨ Incl St Rs)
    (k : ∀ v Ps, q v Ps → W P n o sr ops Q St rest (put d v xs) (Ps ++ Rs)) :
    W P n o sr ops Q St (⟨d, .call { callee := .value (.func f), args := xargs, argTypes := ats }, ty, pos, af, none⟩ :: rest) xs hs := by
  constructor; intro a w ha hw
  have hargs' : xargs.map a.eval = args.toArray := by
    have : ∀ (l : List Operand) (vs : List Value), l.map (ev xs) = vs.map some → l.map a.eval = vs := by
      intro l
      induction l with
      | nil => intro vs h; cases vs with
        | nil => rfl
        | cons => cases h
      | cons x l ih => intro vs h; cases vs with
        | nil => cases h
        | cons v vs =>
          simp only [List.map_cons, List.cons.injEq] at h ⊢
          exact ⟨ha.ev h.1, ih vs h.2⟩
    have h2 := this xargs.toList args hargs
    apply Array.toList_inj.1
    simpa using h2
  rw [wpK, if_pos (by simp [Region.wanted])]
  show Oper.wp P _ a w (fun a w => (freeSt sr ops _ = false → ∀ R ∈ St, SL.holds R w) ∧ wpK P sr ops Q St rest a w) Q
  have hr : (execOp a.eval ⟨d, .call { callee := .value (.func f), args := xargs, argTypes := ats }, ty, pos, af, none⟩).run P w = .ok (.enter f args.toArray) w := by
    simp [execOp, resolve, Act.eval, Deferred.ofValue, invoke, hc.run, hargs']
  simp only [Oper.wp, hr, Oper.upon_enter]
  refine (hs0.run o w Rs (hw.lift he.lift)).mono ?_
  rintro e w' ⟨v, Ps, rfl, hq, hw'⟩
  refine ⟨fun hn => ?_, k v Ps hq _ _ (ha.put hd v) hw'⟩
  rcases hI with h | h
  · rw [h] at hn; cases hn
  · exact (h.app (Ps := Ps)).holds hw'
theorem W.call {f : FuncId} {args : List Value} {xargs : Array Operand} {ats : Array TypeId} {Pre Rs : List HProp} {q : Value → List HProp → Prop}
    [hc : Callable P f] (hs0 : Trip P f args Pre q) (hargs : xargs.toList.map (ev xs) = args.map some) (he : Ent hs Pre Rs) (hd : fits n d = true) (hI : Incl St Rs)
    (k : ∀ v Ps, q v Ps → W P n o sr ops Q St rest (put d v xs) (Ps ++ Rs)) :
    W P n o sr ops Q St (⟨d, .call { callee := .value (.func f), args := xargs, argTypes := ats }, ty, pos, af, none⟩ :: rest) xs hs := W.callo hs0 hargs he hd (.inr hI) k
end
end Go.SL
namespace Go.SL
structure Enc (α : Type) where
  sz : Nat
  f : α → List Value
  len : ∀ x, (f x).length = sz
  one : ∀ x v, v ∈ f x → v.oneCell' = true
  pos : 0 < sz
@[reducible] def Enc.u8 : Enc UInt8 := ⟨1, fun c => [.int .u8 (c.toNat : Int)], fun _ => rfl, fun x v h => by simp at h; subst h; rfl, by decide⟩
@[reducible] def Enc.int (k : IntKind) : Enc Int := ⟨1, fun c => [.int k c], fun _ => rfl, fun x v h => by simp at h; subst h; rfl, by decide⟩
@[reducible] def Enc.bool : Enc Bool := ⟨1, fun c => [.bool c], fun _ => rfl, fun x v h => by simp at h; subst h; rfl, by decide⟩
abbrev str (l : List UInt8) : Value := .string ⟨l.toArray⟩
@[reducible] def Enc.str : Enc (List UInt8) := ⟨1, fun c => [SL.str c], fun _ => rfl, fun x v h => by simp at h; subst h; rfl, by decide⟩
section
variable {α : Type} (E : Enc α)
def Enc.all (xs : List α) : List Value := xs.flatMap E.f
theorem Enc.all_length (xs : List α) : (E.all xs).length = xs.length * E.sz := by
  induction xs with
  | nil => simp [Enc.all]
  | cons x xs ih => simp only [Enc.all, List.flatMap_cons, List.length_append, E.len, List.length_cons] at ih ⊢; rw [ih, Nat.add_mul]; omega
theorem Enc.all_append (xs ys : List α) : E.all (xs ++ ys) = E.all xs ++ E.all ys := by simp [Enc.all]
theorem Enc.all_one (xs : List α) : ∀ v ∈ E.all xs, v.oneCell' = true := by
  intro v hv
  obtain ⟨x, _, hx⟩ := List.mem_flatMap.1 hv
  exact E.one x v hx
theorem Enc.all_get (xs : List α) (i j : Nat) (x : α) (v : Value) (hi : xs[i]? = some x) (hj : (E.f x)[j]? = some v) : (E.all xs)[i * E.sz + j]? = some v := by
  induction xs generalizing i with
  | nil => simp at hi
  | cons y xs ih =>
    have hjl : j < E.sz := by have := (List.getElem?_eq_some_iff.1 hj).1; rwa [E.len] at this
    cases i with
    | zero =>
      simp only [List.getElem?_cons_zero, Option.some.injEq] at hi
      subst hi
      simp only [Enc.all, List.flatMap_cons, Nat.zero_mul, Nat.zero_add]
      rw [List.getElem?_append_left (by rw [E.len]; exact hjl)]; exact hj
    | succ i =>
      simp only [List.getElem?_cons_succ] at hi
      have := ih i hi
      simp only [Enc.all, List.flatMap_cons] at this ⊢
      rw [List.getElem?_append_right (by rw [E.len, Nat.add_mul]; omega), E.len]
      rw [show (i + 1) * E.sz + j - E.sz = i * E.sz + j from by rw [Nat.add_mul]; omega]; exact this
end
theorem maxLen_eq : maxLen = 9223372036854775807 := rfl
def sl {α : Type} (E : Enc α) (e : TypeId) (A : Option Addr) (c : Nat) (xs : List α) : HProp := fun f =>
  (A = none ∧ c = 0 ∧ xs = [] ∧ f = emp) ∨
  ∃ g pre spare, A = some ⟨g, pre.length, none⟩ ∧ (E.all xs).length + spare.length = c * E.sz ∧ c ≤ maxLen ∧ blk g e (pre ++ E.all xs ++ spare) f
def Reads {α : Type} (R : HProp) (E : Enc α) (A : Option Addr) (xs : List α) : Prop :=
  ∀ f w, R f → Holds w f → xs = [] ∨ ∃ g off, A = some ⟨g, off, none⟩ ∧ ∀ i v, (E.all xs)[i]? = some v → w.cell? ⟨g, off + i, none⟩ = some v
section
variable {α : Type} {E : Enc α} {e : TypeId} {A : Option Addr} {c : Nat} {xs : List α} {o : Outer} {w : World} {r : List HProp}
theorem sl_emp (E : Enc α) (e : TypeId) : sl E e none 0 [] emp := .inl ⟨rfl, rfl, rfl, rfl⟩
theorem reads_sl : Reads (sl E e A c xs) E A xs := by
  intro f w hf hw
  rcases hf with ⟨_, _, h, _⟩ | ⟨g, pre, spare, hA, hl, hc, fr, hfr, rfl⟩
  · exact .inl h
  · refine .inr ⟨g, pre.length, hA, fun i v hv => ?_⟩
    have hb := hw g _ (one_self _ _)
    have hi := (List.getElem?_eq_some_iff.1 hv).1
    simp only [World.cell?, hb, Option.isSome_none, Bool.false_eq_true, if_false, List.getElem?_toArray]
    rw [List.append_assoc, List.getElem?_append_right (by omega), show pre.length + i - pre.length = i from by omega, List.getElem?_append_left hi, hv]
theorem Sat.sl_cap (h : Sat o w (sl E e A c xs :: r)) : xs.length ≤ c ∧ c ≤ maxLen ∧ (A = none → c = 0 ∧ xs = []) := by
  obtain ⟨f, hf, _⟩ := h.head
  rcases hf with ⟨h1, h2, h3, _⟩ | ⟨g, pre, spare, hA, hl, hc, _⟩
  · subst h2 h3; exact ⟨Nat.le_refl _, by simp [maxLen_eq], fun _ => ⟨rfl, rfl⟩⟩
  · rw [E.all_length] at hl
    refine ⟨?_, hc, fun hn => by rw [hn] at hA; cases hA⟩
    exact Nat.le_of_mul_le_mul_right (by omega : xs.length * E.sz ≤ c * E.sz) E.pos
theorem Sat.sl_open (h : Sat o w (sl E e A c xs :: r)) :
    (A = none ∧ c = 0 ∧ xs = [] ∧ Sat o w r) ∨ ∃ g pre spare, A = some ⟨g, pre.length, none⟩ ∧ (E.all xs).length + spare.length = c * E.sz ∧ c ≤ maxLen ∧ Sat o w (blk g e (pre ++ E.all xs ++ spare) :: r) := by
  have hd := h.lift (Lift.drop _ _)
  obtain ⟨ho, l, h1, h2, h3⟩ := h
  match l, h1 with
  | p :: l, h1 =>
    simp only [List.map_cons, List.cons.injEq] at h1
    have hp := (h2 p List.mem_cons_self)
    rw [h1.1] at hp
    rcases hp.1 with ⟨a, b, d, _⟩ | ⟨g, pre, spare, hA, hl, hc, hf⟩
    · exact .inl ⟨a, b, d, hd⟩
    · refine .inr ⟨g, pre, spare, hA, hl, hc, ho, (blk g e (pre ++ E.all xs ++ spare), p.2) :: l, by simp [h1.2], fun q hq => ?_, ?_⟩
      · rcases List.mem_cons.1 hq with e | hq
        · subst e; exact ⟨hf, hp.2⟩
        · exact h2 q (List.mem_cons_of_mem _ hq)
      · rw [List.pairwise_cons] at h3 ⊢; exact h3
theorem Sat.weaken {A B : HProp} (h : Sat o w (A :: r)) (k : ∀ f, A f → B f) : Sat o w (B :: r) := by
  obtain ⟨ho, l, h1, h2, h3⟩ := h
  match l, h1 with
  | p :: l, h1 =>
    simp only [List.map_cons, List.cons.injEq] at h1
    have hp := (h2 p List.mem_cons_self)
    refine ⟨ho, (B, p.2) :: l, by simp [h1.2], fun q hq => ?_, ?_⟩
    · rcases List.mem_cons.1 hq with e | hq
      · subst e; exact ⟨k _ (h1.1 ▸ hp.1), hp.2⟩
      · exact h2 q (List.mem_cons_of_mem _ hq)
    · rw [List.pairwise_cons] at h3 ⊢; exact h3
theorem Sat.sl_close {g : Nat} {pre spare : List Value} (h : Sat o w (blk g e (pre ++ E.all xs ++ spare) :: r)) (hl : (E.all xs).length + spare.length = c * E.sz) (hc : c ≤ maxLen) :
    Sat o w (sl E e (some ⟨g, pre.length, none⟩) c xs :: r) :=
  h.weaken fun f hf => .inr ⟨g, pre, spare, rfl, hl, hc, hf⟩
end
theorem add_addr (a : Addr) (ha : a.spot = none) (k : Nat) : a.add k = ⟨a.block, a.off + k, none⟩ := by
  obtain ⟨b, i, s⟩ := a; simp only at ha; subst ha; exact add_off b i k
theorem run_loadCellsFrom {P : Program} {w : World} (g off : Nat) : ∀ (vs : List Value) (i : Nat) (acc : Array Value), (∀ j v, vs[j]? = some v → w.cell? ⟨g, off + (i + j), none⟩ = some v) →
    (loadCellsFrom ⟨g, off, none⟩ i vs.length acc).run P w = .ok (acc ++ vs.toArray) w
  | [], i, acc, _ => by simp [loadCellsFrom]
  | v :: vs, i, acc, h => by
    have h0 := h 0 v rfl
    simp only [Nat.add_zero] at h0
    simp only [List.length_cons, loadCellsFrom, Sem.run_bind, run_load, add_off, h0, Result.andThen_ok]
    rw [run_loadCellsFrom g off vs (i + 1) (acc.push v) (fun j u hj => by
      have := h (j + 1) u (by simpa using hj)
      rw [show i + 1 + j = i + (j + 1) from by omega]; exact this)]
    simp
theorem run_loadCells {P : Program} {w : World} (g off : Nat) (vs : List Value) (h : ∀ j v, vs[j]? = some v → w.cell? ⟨g, off + j, none⟩ = some v) :
    (loadCells ⟨g, off, none⟩ vs.length).run P w = .ok vs.toArray w := by
  rw [loadCells, run_loadCellsFrom g off vs 0 #[] (fun j v hj => by simpa using h j v hj)]; simp
def setAll (cs : List Value) (k : Nat) : List Value → List Value
  | [] => cs
  | v :: vs => setAll (cs.set k v) (k + 1) vs
theorem setAll_length (cs : List Value) (k : Nat) (vs : List Value) : (setAll cs k vs).length = cs.length := by
  induction vs generalizing cs k with
  | nil => rfl
  | cons v vs ih => rw [setAll, ih, List.length_set]
theorem setAll_mid (pre old post : List Value) : ∀ (vs : List Value), old.length = vs.length → setAll (pre ++ old ++ post) pre.length vs = pre ++ vs ++ post := by
  intro vs
  induction vs generalizing pre old with
  | nil => intro h; cases old with | nil => rfl | cons => cases h
  | cons v vs ih =>
    intro h
    cases old with
    | nil => cases h
    | cons u old =>
      simp only [setAll]
      have h1 : (pre ++ u :: old ++ post).set pre.length v = (pre ++ [v]) ++ old ++ post := by
        simp
      rw [h1]
      have := ih (pre ++ [v]) old (by simpa using h)
      simp only [List.length_append, List.length_singleton] at this
      rw [this]; simp
theorem Sat.storeCells {P : Program} {o : Outer} {g off : Nat} {e : TypeId} {r : List HProp} : ∀ (vs : List Value) (i : Nat) (cs : List Value) (w : World), Sat o w (blk g e cs :: r) →
    off + i + vs.length ≤ cs.length → (∀ v ∈ vs, v.oneCell' = true) → ∃ w', (Go.storeCells ⟨g, off, none⟩ vs i).run P w = .ok () w' ∧ Sat o w' (blk g e (setAll cs (off + i) vs) :: r)
  | [], i, cs, w, h, _, _ => ⟨w, rfl, h⟩
  | v :: vs, i, cs, w, h, hl, h1 => by
    simp only [List.length_cons] at hl
    have hlt : off + i < cs.length := by omega
    have hc := h.blk_cell (List.getElem?_eq_getElem hlt)
    have hln : off + (i + 1) + vs.length ≤ (cs.set (off + i) v).length := by rw [List.length_set]; omega
    obtain ⟨w', hr, hs⟩ := Sat.storeCells (P := P) vs (i + 1) (cs.set (off + i) v) _ (h.store (off + i) v) hln (fun u hu => h1 u (List.mem_cons_of_mem _ hu))
    refine ⟨w', ?_, hs⟩
    simp only [Go.storeCells, Sem.run_bind, add_off, run_store P w _ v .plain (h1 v List.mem_cons_self), hc, h.blk_thawed hlt, Bool.false_eq_true, if_false, Result.andThen_ok]
    exact hr
theorem zeroCells_length (z : Array Value) (n : Nat) : (Builtin.zeroCells z n).toList.length = n * z.size := by simp [Builtin.zeroCells]
theorem Sat.append {P : Program} {α : Type} {E : Enc α} {t e bytes : Nat} [ht : SliceTy P t e E.sz bytes] {o : Outer} {w : World} {A : Option Addr} {c : Nat} {xs : List α} {r : List HProp}
    (h : Sat o w (sl E e A c xs :: r)) (news : List α) (A2 : Option Addr) (c2 : Nat) (hx : ∀ w' : World, w'.heap = w.heap → (Builtin.firstCells E.sz news.length (.slice A2 news.length c2)).run P w' = .ok (E.all news).toArray w')
    (hb : (xs.length + news.length) * bytes ≤ 140737488355328) (hm : xs.length + news.length ≤ 140737488355328) (ty : TypeId) :
    ∃ A' c' w', (Builtin.append_ #[t, t] ty #[.slice A xs.length c, .slice A2 news.length c2]).run P w = .ok (.slice A' (xs.length + news.length) c') w' ∧
      Sat o w' (sl E e A' c' (xs ++ news) :: r) := by
  obtain ⟨i, z, hi, hsz, hby, hz, hzs⟩ := ht.info
  have hund := ht.und
  subst hby
  have hcap := h.sl_cap
  have hnl := E.all_length news
  have hxl := E.all_length xs
  by_cases hroom : xs.length + news.length ≤ c
  · rcases h.sl_open with ⟨hA, hc0, hxs, hr⟩ | ⟨g, pre, spare, hA, hl, hc, hr⟩
    · subst hA hc0 hxs
      have hn0 : news = [] := List.eq_nil_of_length_eq_zero (by simpa using hroom)
      subst hn0
      refine ⟨none, 0, w, ?_, hr.lift (Lift.emp (sl_emp E e) _)⟩
      have := hx w rfl
      simp only [List.length_nil] at this
      simp [Builtin.append_, run_underlying hund, sizeOf, typeInfo, hi, hsz, Builtin.lenOf, this]
    · subst hA
      have hfit : news.length * E.sz ≤ spare.length := by
        have := Nat.mul_le_mul_right E.sz hroom
        rw [Nat.add_mul] at this; omega
      obtain ⟨w', hrun, hs⟩ := Sat.storeCells (P := P) (off := pre.length + (E.all xs).length) (E.all news) 0 _ w hr (by simp only [List.length_append]; omega) (E.all_one news)
      refine ⟨some ⟨g, pre.length, none⟩, c, w', ?_, ?_⟩
      · rw [hxl] at hrun
        simp [Builtin.append_, run_underlying hund, sizeOf, typeInfo, hi, hsz, Builtin.lenOf, hroom, hx w rfl, add_off, hrun]
      · rw [Nat.add_zero] at hs
        have e1 : pre ++ E.all xs ++ spare = (pre ++ E.all xs) ++ spare.take (E.all news).length ++ spare.drop (E.all news).length := by
          rw [List.append_assoc (pre ++ E.all xs), List.take_append_drop]
        rw [e1] at hs
        have e2 := setAll_mid (pre ++ E.all xs) (spare.take (E.all news).length) (spare.drop (E.all news).length) (E.all news) (by rw [List.length_take]; omega)
        rw [List.length_append] at e2
        rw [e2] at hs
        rw [show pre ++ E.all xs ++ E.all news ++ spare.drop (E.all news).length = pre ++ E.all (xs ++ news) ++ spare.drop (E.all news).length from by rw [E.all_append]; simp] at hs
        refine hs.sl_close ?_ hc
        rw [E.all_append, List.length_append, List.length_drop]; omega
  · have hold : (Builtin.firstCells E.sz xs.length (.slice A xs.length c)).run P w.drew = .ok (E.all xs).toArray w.drew := by
      rcases (Sat.drew h).sl_open with ⟨hA, hc0, hxs, hr⟩ | ⟨g, pre, spare, hA, hl, hc, hr⟩
      · subst hA hc0 hxs; rfl
      · subst hA
        simp only [Builtin.firstCells]
        rw [← hxl]
        refine run_loadCells g pre.length _ (fun j v hj => hr.blk_cell ?_)
        have hi := (List.getElem?_eq_some_iff.1 hj).1
        rw [List.append_assoc, List.getElem?_append_right (by omega), show pre.length + j - pre.length = j from by omega, List.getElem?_append_left hi, hj]
    have hnew := hx w.drew rfl
    have hfitg := growslice_fits (old := c) (need := xs.length + news.length) (bytes := i.bytes) (by omega) hb
    have h63' : ¬ (9223372036854775807 < ((xs.length : Int) + (news.length : Int))) := by omega
    have h48' : ¬ (281474976710656 < Builtin.nextslicecap (xs.length + news.length) c * i.bytes) := by omega
    have hge := grownCap_ge w (xs.length + news.length) c e
    have hle := grownCap_le_maxLen w (xs.length + news.length) c e (by rw [maxLen_eq]; omega)
    refine ⟨some ⟨w.heap.size, 0, none⟩, grownCap w (xs.length + news.length) c e,
      w.drew.alloc (.cells ([] ++ E.all (xs ++ news) ++ (Builtin.zeroCells z.cells (grownCap w (xs.length + news.length) c e - (xs.length + news.length))).toList).toArray e), ?_, ?_⟩
    · simp [Builtin.append_, run_underlying hund, sizeOf, typeInfo, zeroValue, hi, hsz, hz, Builtin.lenOf, hroom, h63', h48', Question.forced, hnew, hold, newRow, grownCap]
      congr 2
      apply Array.ext'
      simp [List.append_assoc, E.all_append]
    · have h5 := ((Sat.drew h).lift (Lift.drop _ _)).alloc e ([] ++ E.all (xs ++ news) ++ (Builtin.zeroCells z.cells (grownCap w (xs.length + news.length) c e - (xs.length + news.length))).toList)
      refine Sat.sl_close (pre := []) h5 ?_ hle
      rw [zeroCells_length, hzs, E.all_length, ← Nat.add_mul, List.length_append]
      congr 1; omega
end Go.SL
namespace Go.SL
section
variable {P : Program} {n : Nat} {o : Outer} {sr : List Tmp} {ops : Array Oper} {Q : Post} {St : List HProp} {rest : List Oper} {xs : Env} {hs : List HProp}
variable {d : Option Tmp} {ty : TypeId} {pos : String} {af : Array Edge}
theorem W.fact {φ : Prop} (h : ∀ w, Sat o w hs → φ) (k : φ → W P n o sr ops Q St rest xs hs) : W P n o sr ops Q St rest xs hs := ⟨fun a w ha hw => k (h w hw) a w ha hw⟩
theorem C.fact {φ : Prop} {c : Code} (h : ∀ w, Sat o w hs → φ) (k : φ → C P n o Q c xs hs) : C P n o Q c xs hs := ⟨fun a w ha hw => k (h w hw) a w ha hw⟩
theorem E.fact {φ : Prop} {e : Exit} (h : ∀ w, Sat o w hs → φ) (k : φ → E n o Q e xs hs) : E n o Q e xs hs := ⟨fun a w ha hw => k (h w hw) a w ha hw⟩
theorem str_size (s : List UInt8) : (⟨s.toArray⟩ : ByteArray).size = s.length := by simp [ByteArray.size]
variable {α : Type} {En : Enc α} {A : Option Addr} {c : Nat} {l : List α} {R : HProp} {r : List HProp}
theorem W.len_slice {t e sz by_ : Nat} {x : Operand} {m c : Nat} [ht : SliceTy P t e sz by_] (hx : ev xs x = some (.slice A m c)) (hd : fits n d = true)
    (k : W P n o sr ops Q St rest (put d (.int .i64 (m : Int)) xs) hs) : W P n o sr ops Q St (⟨d, .call { callee := .builtin .len, args := #[x], argTypes := #[t] }, ty, pos, af, none⟩ :: rest) xs hs :=
  W.val rfl (by simp only [kind]; first | (intro h; cases h; done) | (repeat' split) <;> (intro h; cases h)) hd (fun a w ha => by
    simp [execOp, resolve, invoke, builtin, Builtin.len_, run_underlying ht.und, ha.ev hx, goInt]) k
theorem W.len_str {t : Nat} {x : Operand} {s : List UInt8} [ht : StrTy P t] (hx : ev xs x = some (str s)) (hd : fits n d = true)
    (k : W P n o sr ops Q St rest (put d (.int .i64 (s.length : Int)) xs) hs) : W P n o sr ops Q St (⟨d, .call { callee := .builtin .len, args := #[x], argTypes := #[t] }, ty, pos, af, none⟩ :: rest) xs hs :=
  W.val rfl (by simp only [kind]; first | (intro h; cases h; done) | (repeat' split) <;> (intro h; cases h)) hd (fun a w ha => by
    have h1 : (Builtin.len_ #[t] ty #[str s]).run P w = .ok (.int .i64 (s.length : Int)) w := by
      simp only [Builtin.len_, List.getElem?_toArray, List.getElem?_cons_zero, Sem.run_bind, run_underlying ht.und, Result.andThen_ok, str, Sem.run_pure, goInt, str_size]
    simp only [execOp, resolve, invoke, builtin, Sem.run_bind, Sem.run_pure, Result.andThen_ok, List.map_toArray, List.map_cons, List.map_nil, ha.ev hx, h1]) k
theorem reads_some {o : Outer} {w : World} (h : Sat o w hs) (hf : Find hs R r) (hR : Reads R En A l) (hl : 0 < l.length) :
    ∃ g off, A = some ⟨g, off, none⟩ := by
  obtain ⟨f, hf', hw⟩ := (h.lift hf.lift).head
  rcases hR f w hf' hw with h0 | ⟨g, off, hA, _⟩
  · subst h0; simp at hl
  · exact ⟨g, off, hA⟩
theorem W.index {t e by_ : Nat} {x ix : Operand} {i : Int} {kd : IntKind} [ht : SliceTy P t e En.sz by_] (hx : ev xs x = some (.slice A l.length c)) (hi : ev xs ix = some (.int kd i))
    (hf : Find hs R r) (hR : Reads R En A l) (h0 : 0 ≤ i) (h1 : i < l.length) (hd : fits n d = true)
    (k : ∀ g off, A = some ⟨g, off, none⟩ → W P n o sr ops Q St rest (put d (.pointer (some ⟨g, off + i.toNat * En.sz, none⟩)) xs) hs) :
    W P n o sr ops Q St (⟨d, .indexAddr t x ix, ty, pos, af, none⟩ :: rest) xs hs := by
  refine W.fact (φ := ∃ g off, A = some ⟨g, off, none⟩) (fun w hw => reads_some hw hf hR (by omega)) ?_
  rintro ⟨g, off, hA⟩
  refine W.val rfl (by simp only [kind]; first | (intro h; cases h; done) | (repeat' split) <;> (intro h; cases h)) hd (fun a w ha => ?_) (k g off hA)
  obtain ⟨inf, z, hi2, hsz, _⟩ := ht.info
  show ((Instr.indexAt t (a.eval x) (a.eval ix)) >>= fun v => pure (Next.value v)).run P w = _
  rw [ha.ev hx, ha.ev hi, Sem.run_bind, hA]
  have h2 : 0 ≤ i ∧ i < (l.length : Int) := ⟨h0, h1⟩
  simp [Instr.indexAt, asIntOf, run_underlying ht.und, h2.1, h2.2, sizeOf, typeInfo, hi2, hsz, add_off]
theorem firstCells_reads {o : Outer} {w : World} (h : Sat o w hs) (hf : Find hs R r) (hR : Reads R En A l) (c : Nat) (w' : World) (hw : w'.heap = w.heap) :
    (Builtin.firstCells En.sz l.length (.slice A l.length c)).run P w' = .ok (En.all l).toArray w' := by
  obtain ⟨f, hf', hw'⟩ := (h.lift hf.lift).head
  have hh : Holds w' f := fun b x hb => by rw [hw]; exact hw' b x hb
  rcases hR f w' hf' hh with h0 | ⟨g, off, hA, hc⟩
  · subst h0
    cases A with
    | none => rfl
    | some a => simp [Builtin.firstCells, loadCells, loadCellsFrom, Enc.all]
  · subst hA
    simp only [Builtin.firstCells]
    rw [← En.all_length]
    exact run_loadCells g off _ hc
theorem W.append {t e by_ c2 : Nat} {x y : Operand} {l2 : List α} {A2 : Option Addr} {R2 : HProp} {r2 : List HProp} [ht : SliceTy P t e En.sz by_] (hx : ev xs x = some (.slice A l.length c)) (hf : Find hs (sl En e A c l) r)
    (hy : ev xs y = some (.slice A2 l2.length c2)) (hf2 : Find hs R2 r2) (hR : Reads R2 En A2 l2) (hb : (l.length + l2.length) * by_ ≤ 140737488355328) (hm : l.length + l2.length ≤ 140737488355328) (hd : fits n d = true) (hI : Incl St r)
    (k : ∀ A' c', W P n o sr ops Q St rest (put d (.slice A' (l ++ l2).length c') xs) (sl En e A' c' (l ++ l2) :: r)) :
    W P n o sr ops Q St (⟨d, .call { callee := .builtin .append, args := #[x, y], argTypes := #[t, t] }, ty, pos, af, none⟩ :: rest) xs hs :=
  W.op rfl rfl hd fun a w ha hw => by
    obtain ⟨A', c', w', hr, hs'⟩ := Sat.append (P := P) (t := t) (hw.lift hf.lift) l2 A2 c2 (fun w' h => firstCells_reads hw hf2 hR c2 w' h) hb hm ty
    refine ⟨_, w', _, ?_, hs', hI.there, List.length_append ▸ k A' c'⟩
    simp only [execOp, resolve, invoke, builtin, Sem.run_bind, Sem.run_pure, Result.andThen_ok, List.map_toArray, List.map_cons, List.map_nil, ha.ev hx, ha.ev hy, hr]
theorem W.append_nil {t e by_ c2 : Nat} {x y : Operand} {l2 : List α} {A2 : Option Addr} {R2 : HProp} {r2 : List HProp} [ht : SliceTy P t e En.sz by_] (hx : ev xs x = some (.slice none 0 0))
    (hy : ev xs y = some (.slice A2 l2.length c2)) (hf2 : Find hs R2 r2) (hR : Reads R2 En A2 l2) (hb : l2.length * by_ ≤ 140737488355328) (hm : l2.length ≤ 140737488355328) (hd : fits n d = true) (hI : Incl St hs)
    (k : ∀ A' c', W P n o sr ops Q St rest (put d (.slice A' l2.length c') xs) (sl En e A' c' l2 :: hs)) :
    W P n o sr ops Q St (⟨d, .call { callee := .builtin .append, args := #[x, y], argTypes := #[t, t] }, ty, pos, af, none⟩ :: rest) xs hs :=
  W.lift (Lift.emp (sl_emp En e) hs) (W.append (l := []) hx .here hy (.there hf2) hR (by simpa using hb) (by simpa using hm) hd hI k)
theorem fold_setAll (off : Nat) : ∀ (vs : List Value) (k : Nat) (acc : Array Value),
    (vs.zipIdx k).foldl (fun cs (p : Value × Nat) => cs.setIfInBounds (off + p.2) p.1) acc = (setAll acc.toList (off + k) vs).toArray := by
  intro vs
  induction vs with
  | nil => intro k acc; simp [setAll]
  | cons v vs ih =>
    intro k acc
    have h := ih (k + 1) (acc.setIfInBounds (off + k) v)
    simp only [List.zipIdx_cons, List.foldl_cons, setAll, Array.toList_setIfInBounds] at h ⊢
    exact h
theorem zipIdx_foldl {β : Type} (vs : Array Value) (f : β → Value × Nat → β) (b : β) : vs.zipIdx.foldl f b = (vs.toList.zipIdx 0).foldl f b := by
  rw [← Array.foldl_toList, Array.toList_zipIdx]
def enum : Nat → List Value → List (Nat × Value)
  | _, [] => []
  | k, v :: vs => (k, v) :: enum (k + 1) vs
theorem fill_enum (sz : Nat) : ∀ (vs : List Value) (k : Nat) (cells : Array Value), (∀ v ∈ vs, v.cells.size = sz) → (k + vs.length) * sz ≤ cells.size →
    Instr.fill (fun i => some (i * sz, sz)) cells (enum k vs) = some (setAll cells.toList (k * sz) (vs.flatMap fun v => v.cells.toList)).toArray
  | [], k, cells, _, _ => by simp [enum, Instr.fill, setAll]
  | v :: vs, k, cells, h, hl => by
    have hv := h v List.mem_cons_self
    simp only [List.length_cons] at hl
    have hle : k * sz + sz ≤ cells.size := by
      have : (k + 1) * sz ≤ (k + (vs.length + 1)) * sz := Nat.mul_le_mul_right _ (by omega)
      rw [Nat.add_mul, Nat.one_mul] at this; omega
    have hf := fold_setAll (k * sz) v.cells.toList 0 cells
    simp only [Nat.add_zero] at hf
    simp only [enum, Instr.fill, hv]
    rw [if_neg (by simp; omega), zipIdx_foldl, hf]
    rw [fill_enum sz vs (k + 1) _ (fun u hu => h u (List.mem_cons_of_mem _ hu)) (by simp only [List.size_toArray, setAll_length, Array.length_toList]; rw [show k + 1 + vs.length = k + (vs.length + 1) from by omega]; exact hl)]
    congr 2
    simp only [List.flatMap_cons]
    have app : ∀ (a b : List Value) (cs : List Value) (j : Nat), setAll (setAll cs j a) (j + a.length) b = setAll cs j (a ++ b) := by
      intro a
      induction a with
      | nil => intro b cs j; rfl
      | cons x a ih => intro b cs j; simp only [setAll, List.cons_append, List.length_cons]; rw [← ih, show j + (a.length + 1) = j + 1 + a.length from by omega]
    have := app v.cells.toList (vs.flatMap fun v => v.cells.toList) cells.toList (k * sz)
    rw [← this, Array.length_toList, hv, Nat.add_mul, Nat.one_mul]
theorem setAll_all (cs vs : List Value) (h : cs.length = vs.length) : setAll cs 0 vs = vs := by
  have := setAll_mid [] cs [] vs h
  simpa using this
theorem W.buildSlice {t e by_ : Nat} {parts : Array (Nat × Operand)} {vs : List Value} (En : Enc α) (l : List α) [ht : SliceTy P t e En.sz by_] {m : Nat} (hm : m = l.length) (hml : l.length * En.sz ≤ 16777216)
    (hp : parts.toList.map (fun p => (p.1, ev xs p.2)) = (enum 0 vs).map (fun p => (p.1, some p.2))) (hv : vs.map (fun v => v.cells.toList) = l.map En.f) (hd : fits n d = true) (hI : Incl St hs)
    (k : ∀ b, W P n o sr ops Q St rest (put d (.slice (some ⟨b, 0, none⟩) l.length l.length) xs) (sl En e (some ⟨b, 0, none⟩) l.length l :: hs)) :
    W P n o sr ops Q St (⟨d, .buildSlice t m parts, ty, pos, af, none⟩ :: rest) xs hs :=
  W.op rfl rfl hd fun a w ha hw => by
    subst hm
    obtain ⟨i, z, hi, hsz, hby, hz, hzs⟩ := ht.info
    have hlen : vs.length = l.length := by have := congrArg List.length hv; simpa using this
    have hvs : ∀ v ∈ vs, v.cells.size = En.sz := by
      intro v hvm
      have : v.cells.toList ∈ l.map En.f := hv ▸ List.mem_map_of_mem hvm
      obtain ⟨x, _, hx⟩ := List.mem_map.1 this
      rw [← Array.length_toList, ← hx, En.len]
    have hflat : (vs.flatMap fun v => v.cells.toList) = En.all l := by
      simp only [Enc.all, List.flatMap, hv]
    have hparts : (parts.map fun p => (p.1, a.eval p.2)).toList = enum 0 vs := by
      have key : ∀ (ps : List (Nat × Operand)) (es : List (Nat × Value)), ps.map (fun p => (p.1, ev xs p.2)) = es.map (fun p => (p.1, some p.2)) → ps.map (fun p => (p.1, a.eval p.2)) = es := by
        intro ps
        induction ps with
        | nil => intro es h; cases es with
          | nil => rfl
          | cons => cases h
        | cons p ps ih => intro es h; cases es with
          | nil => cases h
          | cons q es =>
            simp only [List.map_cons, List.cons.injEq, Prod.mk.injEq] at h ⊢
            exact ⟨by rw [Prod.mk.injEq]; exact ⟨h.1.1, ha.ev h.1.2⟩, ih es h.2⟩
      simpa using key _ _ hp
    have hz2 : (if l.length * En.sz = 0 then (#[] : Array Value) else z.cells).size = if l.length * En.sz = 0 then 0 else En.sz := by split <;> simp [hzs]
    have hfill : Instr.fill (fun i => some (i * En.sz, En.sz)) ((Array.range (l.length * En.sz)).map ((if l.length * En.sz = 0 then (#[] : Array Value) else z.cells)[· % (if l.length * En.sz = 0 then (#[] : Array Value) else z.cells).size]!)) (parts.map fun p => (p.1, a.eval p.2)).toList
        = some (En.all l).toArray := by
      rw [hparts, fill_enum En.sz vs 0 _ hvs (by simp [hlen])]
      rw [hflat]
      congr 2
      rw [Nat.zero_mul]
      exact setAll_all _ _ (by rw [Array.length_toList, Array.size_map, Array.size_range, En.all_length])
    have hsat := hw.alloc e (En.all l)
    refine ⟨.slice (some ⟨w.heap.size, 0, none⟩) l.length l.length, w.alloc (.cells (En.all l).toArray e), _, ?_, ?_, hI.there, k w.heap.size⟩
    · show ((Instr.buildSlice t l.length (parts.map fun p => (p.1, a.eval p.2))) >>= fun v => pure (Next.value v)).run P w = _
      have hml' : ¬ 16777216 < l.length * En.sz := by omega
      by_cases hz0 : l.length * En.sz = 0
      · simp only [hz0, if_true] at hfill
        simp [Instr.buildSlice, run_underlying ht.und, sizeOf, typeInfo, hi, hsz, hz0, newRow] at hfill ⊢
        rw [hfill]; rfl
      · simp only [hz0, if_false] at hfill
        simp [Instr.buildSlice, run_underlying ht.und, sizeOf, typeInfo, hi, hsz, hz0, newRow, hml', zeroValue, hz] at hfill ⊢
        rw [hfill]; rfl
    · have : Sat o (w.alloc (.cells (En.all l).toArray e)) (blk w.heap.size e ([] ++ En.all l ++ []) :: hs) := by simpa using hsat
      refine this.sl_close (pre := []) (by simp [En.all_length]) ?_
      have : l.length ≤ l.length * En.sz := Nat.le_mul_of_pos_right _ En.pos
      rw [maxLen_eq]; omega
theorem W.slice1 {t e by_ : Nat} {x : Operand} {v : Value} (En : Enc α) (y : α) [ht : SliceTy P t e En.sz by_] (hx : ev xs x = some v) (hv : v.cells.toList = En.f y) (hsz : Nat.ble En.sz 4096 = true) (hd : fits n d = true) (hI : Incl St hs)
    (k : ∀ b, W P n o sr ops Q St rest (put d (.slice (some ⟨b, 0, none⟩) [y].length 1) xs) (sl En e (some ⟨b, 0, none⟩) 1 [y] :: hs)) :
    W P n o sr ops Q St (⟨d, .buildSlice t 1 #[(0, x)], ty, pos, af, none⟩ :: rest) xs hs :=
  W.buildSlice En [y] (vs := [v]) rfl (by have := Nat.le_of_ble_eq_true hsz; simp; omega) (by simp [enum, hx]) (by simp [hv]) hd hI k
end
end Go.SL
namespace Go.SL
class BytesTy (P : Program) (t : TypeId) (e : outParam Nat) : Prop where
  und : P.underlying t = some (.slice e)
  elem : P.underlying e = some (.int .u8)
section
variable {P : Program} {n : Nat} {o : Outer} {sr : List Tmp} {ops : Array Oper} {Q : Post} {St : List HProp} {rest : List Oper} {xs : Env} {hs : List HProp}
variable {d : Option Tmp} {ty : TypeId} {pos : String} {af : Array Edge}
theorem strOfNums_bytes (l : List UInt8) : strOfNums (l.map fun c => (c.toNat : Int)) = ⟨l.toArray⟩ := by
  have : ((fun n : Int => UInt8.ofNat n.toNat) ∘ fun c : UInt8 => (c.toNat : Int)) = id := by funext c; simp
  simp [strOfNums, this]
theorem u8_all (l : List UInt8) : Enc.u8.all l = (l.map fun c => (c.toNat : Int)).map (Value.int .u8) := by
  simp [Enc.all, List.flatMap, List.map_map]
  induction l with
  | nil => rfl
  | cons x l ih => simp [ih]
theorem run_bytes_str {src dst e : Nat} {A : Option Addr} {c : Nat} {l : List UInt8} {R : HProp} [hb : BytesTy P src e] [ht : StrTy P dst] (hR : Reads R Enc.u8 A l) (w : World) (hw : holds R w) :
    (convert src dst (.slice A l.length c)).run P w = .ok (str l) w := by
  obtain ⟨f, hf', hw'⟩ := hw
  rcases hR f w hf' hw' with h0 | ⟨g, off, hA, hc⟩
  · subst h0
    cases A with
    | none => exact run_convert_bytes_nil w src e hb.und hb.elem 0 c dst ht.und
    | some ad =>
      rw [run_convert_bytes_string w src dst e _ _ c hb.und hb.elem ht.und, run_bytesToString w ad _ c [] (by simp [loadCells, loadCellsFrom])]
      rfl
  · subst hA
    have := run_convert_bytes_arg w src e hb.und hb.elem g off l.length c (l.map fun c => (c.toNat : Int)) (by simp) (fun i hi => by
      refine hc i _ ?_
      rw [u8_all]
      simp [hi]) dst ht.und
    rw [strOfNums_bytes] at this
    exact this
theorem W.bytes_str {src dst e : Nat} {x : Operand} {A : Option Addr} {c : Nat} {l : List UInt8} {R : HProp} {r : List HProp} [hb : BytesTy P src e] [ht : StrTy P dst] (hx : ev xs x = some (.slice A l.length c))
    (hf : Find hs R r) (hR : Reads R Enc.u8 A l) (hns : stbD sr d = false) (hd : fits n d = true) (k : W P n o sr ops Q St rest (put d (str l) xs) hs) :
    W P n o sr ops Q St (⟨d, .convert src dst x, ty, pos, af, none⟩ :: rest) xs hs := by
  refine W.read rfl (by simp [kind, ht.und]) hns hd (fun a w ha hw => ?_) k
  show ((convert src dst (a.eval x)) >>= fun v => pure (Next.value v)).run P w = _
  rw [ha.ev hx, Sem.run_bind, run_bytes_str hR w (hw.holds hf.mem)]; rfl
theorem W.str_bytes {src dst e : Nat} {x : Operand} {l : List UInt8} [hb : BytesTy P dst e] [ht : StrTy P src] (hx : ev xs x = some (str l)) (hl : l.length ≤ 140737488355328) (hd : fits n d = true) (hI : Incl St hs)
    (k : ∀ A c, W P n o sr ops Q St rest (put d (.slice A l.length c) xs) (sl Enc.u8 e A c l :: hs)) :
    W P n o sr ops Q St (⟨d, .convert src dst x, ty, pos, af, none⟩ :: rest) xs hs := by
  refine W.op rfl (by simp [kind, hb.und]) hd fun a w ha hw => ?_
  have hrun := Lib.run_convert_string_bytes (P := P) w src dst e ⟨l.toArray⟩ ht.und hb.und hb.elem
  rw [str_size] at hrun
  refine ⟨_, Lib.bytesWorld w e ⟨l.toArray⟩, _, ?_, ?_, hI.there, k (some ⟨w.heap.size, 0, none⟩) (grownCap w l.length 0 e)⟩
  · show ((convert src dst (a.eval x)) >>= fun v => pure (Next.value v)).run P w = _
    rw [ha.ev hx, Sem.run_bind, hrun]; rfl
  · have hge := grownCap_ge w l.length 0 e
    have hle := grownCap_le_maxLen w l.length 0 e (by rw [maxLen_eq]; omega)
    refine hw.more hw.1 ⟨one w.heap.size (false, _), .inr ⟨w.heap.size, [], List.replicate (grownCap w l.length 0 e - l.length) (.int .u8 0), rfl, ?_, hle, ⟨((Lib.bytesCells w e ⟨l.toArray⟩).size, (Lib.bytesCells w e ⟨l.toArray⟩).size + 1), ?_, rfl⟩⟩, ?_, ?_⟩ ?_
    · simp [Enc.all_length, Enc.u8]; omega
    · right
      simp only [Lib.bytesCells, Array.size_append, Array.size_map, Array.size_replicate, List.nil_append, List.length_append, List.length_replicate]
      simp [Enc.all_length, Enc.u8, ByteArray.size]
    · intro b y hb'
      obtain ⟨rfl, rfl⟩ := one_some hb'
      rw [Lib.bytesWorld_at_new]
      congr 2
      simp only [Lib.bytesCells, List.nil_append]
      apply Array.ext'
      simp [u8_all, str_size]
    · intro b y hb'
      obtain ⟨rfl, _⟩ := one_some hb'
      exact Nat.le_refl _
    · intro b hb'
      exact Lib.bytesWorld_at_old w e _ b hb'
theorem run_binOp_int (op : BinOp) (t : TypeId) (x y : Operand) (k : IntKind) (a b : Int) (w : World) (h1 : op ≠ .shl) (h2 : op ≠ .shr) :
    ((do eqGuard op t x y (.int k a) (.int k b); binOp op t (.int k a) (.int k b) : Sem Value)).run P w =
      (match op with
        | .add | .sub | .mul => Op.intArith op k a b
        | .quo | .rem => Op.intDiv op k a b
        | .and | .or | .xor | .andNot => Op.intBits op k a b
        | _ => Op.intCmp op a b).run P w := by
  cases op <;> simp_all [eqGuard, binOp]
def cmpI : BinOp → Int → Int → Option Bool
  | .eql, a, b => some (a == b)
  | .neq, a, b => some (a != b)
  | .lss, a, b => some (decide (a < b))
  | .leq, a, b => some (decide (a ≤ b))
  | .gtr, a, b => some (decide (a > b))
  | .geq, a, b => some (decide (a ≥ b))
  | _, _, _ => none
theorem W.cmp {op : BinOp} {t t2 : TypeId} {x y : Operand} {kd : IntKind} {a b : Int} {p : Bool} (hx : ev xs x = some (.int kd a)) (hy : ev xs y = some (.int kd b)) (hc : cmpI op a b = some p) (hd : fits n d = true)
    (k : W P n o sr ops Q St rest (put d (.bool p) xs) hs) : W P n o sr ops Q St (⟨d, .binOp op t x y t2, ty, pos, af, none⟩ :: rest) xs hs :=
  W.val rfl (by simp only [kind]; first | (intro h; cases h; done) | (repeat' split) <;> (intro h; cases h)) hd (fun ac w ha => by
    have hr := run_binOp_int (P := P) op t x y kd a b w (by rintro rfl; cases hc) (by rintro rfl; cases hc)
    show ((do eqGuard op t x y (ac.eval x) (ac.eval y); binOp op t (ac.eval x) (ac.eval y) : Sem Value) >>= fun v => pure (Next.value v)).run P w = _
    rw [ha.ev hx, ha.ev hy, Sem.run_bind, hr]
    cases op <;> simp [cmpI] at hc <;> subst hc <;> simp [Op.intCmp]) k
def ariI : BinOp → IntKind → Int → Int → Option Int
  | .add, k, a, b => some (k.wrap (a + b))
  | .sub, k, a, b => some (k.wrap (a - b))
  | .mul, k, a, b => some (k.wrap (a * b))
  | _, _, _, _ => none
theorem W.ari {op : BinOp} {t t2 : TypeId} {x y : Operand} {kd : IntKind} {a b z : Int} (hx : ev xs x = some (.int kd a)) (hy : ev xs y = some (.int kd b)) (hc : ariI op kd a b = some z) (hd : fits n d = true)
    (k : W P n o sr ops Q St rest (put d (.int kd z) xs) hs) : W P n o sr ops Q St (⟨d, .binOp op t x y t2, ty, pos, af, none⟩ :: rest) xs hs :=
  W.val rfl (by simp only [kind]; first | (intro h; cases h; done) | (repeat' split) <;> (intro h; cases h)) hd (fun ac w ha => by
    have hr := run_binOp_int (P := P) op t x y kd a b w (by rintro rfl; cases hc) (by rintro rfl; cases hc)
    show ((do eqGuard op t x y (ac.eval x) (ac.eval y); binOp op t (ac.eval x) (ac.eval y) : Sem Value) >>= fun v => pure (Next.value v)).run P w = _
    rw [ha.ev hx, ha.ev hy, Sem.run_bind, hr]
    cases op <;> simp [ariI] at hc <;> subst hc <;> simp [Op.intArith]) k
theorem ari_add {a b z : Int} (h : z = a + b) (h1 : -9223372036854775808 ≤ z) (h2 : z ≤ 9223372036854775807) : ariI .add .i64 a b = some z := by
  subst h; simp only [ariI]; rw [IntWalk.i64_in _ ⟨h1, h2⟩]
theorem ari_sub {a b z : Int} (h : z = a - b) (h1 : -9223372036854775808 ≤ z) (h2 : z ≤ 9223372036854775807) : ariI .sub .i64 a b = some z := by
  subst h; simp only [ariI]; rw [IntWalk.i64_in _ ⟨h1, h2⟩]
theorem ari_mul {a b z : Int} (h : z = a * b) (h1 : -9223372036854775808 ≤ z) (h2 : z ≤ 9223372036854775807) : ariI .mul .i64 a b = some z := by
  subst h; simp only [ariI]; rw [IntWalk.i64_in _ ⟨h1, h2⟩]
def cmpS : BinOp → List UInt8 → List UInt8 → Option Bool
  | .eql, a, b => some (a == b)
  | .neq, a, b => some (a != b)
  | .lss, a, b => some (Op.bytesLess a b)
  | .leq, a, b => some (Op.bytesLess a b || (a == b))
  | .gtr, a, b => some (!(Op.bytesLess a b || (a == b)))
  | .geq, a, b => some (!(Op.bytesLess a b))
  | _, _, _ => none
theorem W.cmp_str {op : BinOp} {t t2 : TypeId} {x y : Operand} {a b : List UInt8} {p : Bool} (hx : ev xs x = some (str a)) (hy : ev xs y = some (str b)) (hc : cmpS op a b = some p) (hd : fits n d = true)
    (k : W P n o sr ops Q St rest (put d (.bool p) xs) hs) : W P n o sr ops Q St (⟨d, .binOp op t x y t2, ty, pos, af, none⟩ :: rest) xs hs :=
  W.val rfl (by simp only [kind]; first | (intro h; cases h; done) | (repeat' split) <;> (intro h; cases h)) hd (fun ac w ha => by
    show ((do eqGuard op t x y (ac.eval x) (ac.eval y); binOp op t (ac.eval x) (ac.eval y) : Sem Value) >>= fun v => pure (Next.value v)).run P w = _
    have h1 : (binOp op t (str a) (str b)).run P w = .ok (.bool p) w := by
      cases op <;> simp only [cmpS, Option.some.injEq, reduceCtorEq] at hc <;> subst hc <;> simp only [binOp, Op.stringOp, ByteArray.toList_mk, Sem.run_pure, bne]
    have h2 : (eqGuard op t x y (str a) (str b)).run P w = .ok () w := by
      unfold eqGuard; split <;> rfl
    rw [ha.ev hx, ha.ev hy, Sem.run_bind, Sem.run_bind, h2, Result.andThen_ok, h1]; rfl) k
theorem str_append (a b : List UInt8) : (⟨a.toArray⟩ : ByteArray) ++ ⟨b.toArray⟩ = ⟨(a ++ b).toArray⟩ := by
  apply ByteArray.ext
  simp
theorem W.concat {t t2 : TypeId} {x y : Operand} {a b : List UInt8} (hx : ev xs x = some (str a)) (hy : ev xs y = some (str b)) (hl : a.length + b.length ≤ 9223372036854775807) (hd : fits n d = true)
    (k : W P n o sr ops Q St rest (put d (str (a ++ b)) xs) hs) : W P n o sr ops Q St (⟨d, .binOp .add t x y t2, ty, pos, af, none⟩ :: rest) xs hs :=
  W.val rfl (by simp only [kind]; first | (intro h; cases h; done) | (repeat' split) <;> (intro h; cases h)) hd (fun ac w ha => by
    show ((do eqGuard .add t x y (ac.eval x) (ac.eval y); binOp .add t (ac.eval x) (ac.eval y) : Sem Value) >>= fun v => pure (Next.value v)).run P w = _
    rw [ha.ev hx, ha.ev hy, Sem.run_bind]
    have h6 : ¬ (9223372036854775807 < ((a.length : Int) + (b.length : Int))) := by omega
    simp [eqGuard, binOp, Op.stringOp, str, str_size, str_append, IntKind.max, IntKind.signed, IntKind.bits, h6]) k
theorem W.index_str {t : TypeId} {x ix : Operand} {s : List UInt8} {i : Int} {kd : IntKind} {c : UInt8} [ht : StrTy P t] (hx : ev xs x = some (str s)) (hi : ev xs ix = some (.int kd i)) (h0 : 0 ≤ i) (hc : s[i.toNat]? = some c)
    (hd : fits n d = true) (k : W P n o sr ops Q St rest (put d (.int .u8 (c.toNat : Int)) xs) hs) : W P n o sr ops Q St (⟨d, .index t x ix, ty, pos, af, none⟩ :: rest) xs hs :=
  W.val rfl (by simp only [kind]; first | (intro h; cases h; done) | (repeat' split) <;> (intro h; cases h)) hd (fun ac w ha => by
    show ((Instr.index t (ac.eval x) (ac.eval ix)) >>= fun v => pure (Next.value v)).run P w = _
    rw [ha.ev hx, ha.ev hi, Sem.run_bind]
    have h1 : (⟨s.toArray⟩ : ByteArray)[i.toNat]? = some c := by
      have hlt := (List.getElem?_eq_some_iff.1 hc).1
      rw [ByteArray.getElem?_lt' _ _ (by rw [str_size]; exact hlt)]
      have := (List.getElem?_eq_some_iff.1 hc).2
      simp only [Option.some.injEq]
      rw [← this]; rfl
    simp [Instr.index, asIntOf, run_underlying ht.und, str, h0, h1]) k
theorem W.slice_str {t : TypeId} {x : Operand} {lo hi : Option Operand} {s : List UInt8} {a b : Int} {ka kb : IntKind} [ht : StrTy P t] (hx : ev xs x = some (str s))
    (hlo : (lo = none ∧ a = 0) ∨ ∃ l, lo = some l ∧ ev xs l = some (.int ka a)) (hhi : (hi = none ∧ b = s.length) ∨ ∃ h, hi = some h ∧ ev xs h = some (.int kb b)) (h0 : 0 ≤ a) (h1 : a ≤ b) (h2 : b ≤ s.length) (hd : fits n d = true)
    (k : W P n o sr ops Q St rest (put d (str ((s.drop a.toNat).take (b.toNat - a.toNat))) xs) hs) : W P n o sr ops Q St (⟨d, .slice t x lo hi none, ty, pos, af, none⟩ :: rest) xs hs :=
  W.val rfl (by simp only [kind]; first | (intro h; cases h; done) | (repeat' split) <;> (intro h; cases h)) hd (fun ac w ha => by
    have hrun : (Instr.sliceAt t (str s) (lo.map ac.eval) (hi.map ac.eval) none).run P w = .ok (str ((s.drop a.toNat).take (b.toNat - a.toNat))) w := by
      have hb0 : 0 ≤ b := by omega
      have hbs : b ≤ ((⟨s.toArray⟩ : ByteArray).size : Int) := by rw [str_size]; exact h2
      have hbt : ((b.toNat : Nat) : Int) = b := Int.toNat_of_nonneg hb0
      rcases hlo with ⟨rfl, rfl⟩ | ⟨l, rfl, hl⟩ <;> rcases hhi with ⟨rfl, rfl⟩ | ⟨h, rfl, hh⟩
      · simp [Instr.sliceAt, Instr.slice, Instr.sliceBounds, run_underlying ht.und, str]
      · simp [Instr.sliceAt, Instr.slice, Instr.sliceBounds, Instr.sliceBound, asIntOf, run_underlying ht.und, str, ByteArray.extract_mk, ha.ev hh, hb0, hbs]
      · simp [Instr.sliceAt, Instr.slice, Instr.sliceBounds, Instr.sliceBound, asIntOf, run_underlying ht.und, str, ByteArray.extract_mk, str_size, ha.ev hl, h0, h1]
      · simp [Instr.sliceAt, Instr.slice, Instr.sliceBounds, Instr.sliceBound, asIntOf, run_underlying ht.und, str, ByteArray.extract_mk, ha.ev hl, ha.ev hh, h0, h1, hb0, hbs, hbt]
    show ((Instr.sliceAt t (ac.eval x) (lo.map ac.eval) (hi.map ac.eval) none) >>= fun v => pure (Next.value v)).run P w = _
    rw [ha.ev hx, Sem.run_bind, hrun]; rfl) k
class PtrTy (P : Program) (t : TypeId) : Prop where
  und : P.underlying t = some (.pointer (P.pointee t))
theorem W.eq_nil {t t2 : TypeId} {x y : Operand} {a : Option Addr} [ht : PtrTy P t] (hx : ev xs x = some (.pointer a)) (hy : ev xs y = some (.pointer none)) (hd : fits n d = true)
    (k : W P n o sr ops Q St rest (put d (.bool a.isNone) xs) hs) : W P n o sr ops Q St (⟨d, .binOp .eql t x y t2, ty, pos, af, none⟩ :: rest) xs hs :=
  W.val rfl (by simp only [kind]; first | (intro h; cases h; done) | (repeat' split) <;> (intro h; cases h)) hd (fun ac w ha => by
    have h1 := run_eql_pointer_nil (P := P) (w := w) t a ht.und
    show ((do eqGuard .eql t x y (ac.eval x) (ac.eval y); binOp .eql t (ac.eval x) (ac.eval y) : Sem Value) >>= fun v => pure (Next.value v)).run P w = _
    rw [ha.ev hx, ha.ev hy, Sem.run_bind, Sem.run_bind, show eqGuard .eql t x y (.pointer a) (.pointer none) = pure () from rfl, Sem.run_pure, Result.andThen_ok, h1]
    cases a <;> rfl) k
theorem W.ne_nil {t t2 : TypeId} {x y : Operand} {a : Option Addr} [ht : PtrTy P t] (hx : ev xs x = some (.pointer a)) (hy : ev xs y = some (.pointer none)) (hd : fits n d = true)
    (k : W P n o sr ops Q St rest (put d (.bool a.isSome) xs) hs) : W P n o sr ops Q St (⟨d, .binOp .neq t x y t2, ty, pos, af, none⟩ :: rest) xs hs :=
  W.val rfl (by simp only [kind]; first | (intro h; cases h; done) | (repeat' split) <;> (intro h; cases h)) hd (fun ac w ha => by
    have h1 := run_neq_pointer_nil (P := P) (w := w) t a ht.und
    show ((do eqGuard .neq t x y (ac.eval x) (ac.eval y); binOp .neq t (ac.eval x) (ac.eval y) : Sem Value) >>= fun v => pure (Next.value v)).run P w = _
    rw [ha.ev hx, ha.ev hy, Sem.run_bind, Sem.run_bind, show eqGuard .neq t x y (.pointer a) (.pointer none) = pure () from rfl, Sem.run_pure, Result.andThen_ok, h1]
    cases a <;> rfl) k
theorem W.not {x : Operand} {t : TypeId} {b : Bool} (hx : ev xs x = some (.bool b)) (hd : fits n d = true) (k : W P n o sr ops Q St rest (put d (.bool (!b)) xs) hs) : W P n o sr ops Q St (⟨d, .unOp .not t x, ty, pos, af, none⟩ :: rest) xs hs :=
  W.val rfl (by simp only [kind]; first | (intro h; cases h; done) | (repeat' split) <;> (intro h; cases h)) hd (fun ac w ha => by simp [execOp, Op.unary, ha.ev hx]) k
theorem W.extract {x : Operand} {i : Nat} {vs : Array Value} {v : Value} (hx : ev xs x = some (.tuple vs)) (hv : vs.toList[i]? = some v) (hd : fits n d = true) (k : W P n o sr ops Q St rest (put d v xs) hs) :
    W P n o sr ops Q St (⟨d, .extract x i, ty, pos, af, none⟩ :: rest) xs hs :=
  W.val rfl (by simp only [kind]; first | (intro h; cases h; done) | (repeat' split) <;> (intro h; cases h)) hd (fun ac w ha => by rw [Array.getElem?_toList] at hv; simp [execOp, Instr.extract, ha.ev hx, hv]) k
theorem W.max2 {t u : TypeId} {x y : Operand} {kd : IntKind} {a b : Int} (hx : ev xs x = some (.int kd a)) (hy : ev xs y = some (.int kd b)) (hd : fits n d = true)
    (k : W P n o sr ops Q St rest (put d (.int kd (max a b)) xs) hs) : W P n o sr ops Q St (⟨d, .call { callee := .builtin .max, args := #[x, y], argTypes := #[t, u] }, ty, pos, af, none⟩ :: rest) xs hs :=
  W.val rfl (by simp only [kind]; first | (intro h; cases h; done) | (repeat' split) <;> (intro h; cases h)) hd (fun ac w ha => by
    have h1 : (if b > a then b else a) = max a b := by rw [Int.max_def]; split <;> split <;> omega
    simp only [execOp, resolve, invoke, builtin, Sem.run_bind, Sem.run_pure, Result.andThen_ok, List.map_toArray, List.map_cons, List.map_nil, ha.ev hx, ha.ev hy, Builtin.max_, List.foldlM_cons, List.foldlM_nil, Builtin.max2, h1]) k
theorem W.min2 {t u : TypeId} {x y : Operand} {kd : IntKind} {a b : Int} (hx : ev xs x = some (.int kd a)) (hy : ev xs y = some (.int kd b)) (hd : fits n d = true)
    (k : W P n o sr ops Q St rest (put d (.int kd (min a b)) xs) hs) : W P n o sr ops Q St (⟨d, .call { callee := .builtin .min, args := #[x, y], argTypes := #[t, u] }, ty, pos, af, none⟩ :: rest) xs hs :=
  W.val rfl (by simp only [kind]; first | (intro h; cases h; done) | (repeat' split) <;> (intro h; cases h)) hd (fun ac w ha => by
    have h1 : (if b < a then b else a) = min a b := by rw [Int.min_def]; split <;> split <;> omega
    simp only [execOp, resolve, invoke, builtin, Sem.run_bind, Sem.run_pure, Result.andThen_ok, List.map_toArray, List.map_cons, List.map_nil, ha.ev hx, ha.ev hy, Builtin.min_, List.foldlM_cons, List.foldlM_nil, Builtin.min2, h1]) k
theorem W.conv_int {src dst : TypeId} {x : Operand} {kd k2 : IntKind} {a b : Int} {u : TypeDesc} [ht : IntTy P dst k2] (hs0 : P.underlying src = some u) (hx : ev xs x = some (.int kd a)) (hb : k2.wrap a = b) (hd : fits n d = true)
    (k : W P n o sr ops Q St rest (put d (.int k2 b) xs) hs) : W P n o sr ops Q St (⟨d, .convert src dst x, ty, pos, af, none⟩ :: rest) xs hs :=
  W.val rfl (by simp [kind, ht.und]) hd (fun ac w ha => by
    show ((convert src dst (ac.eval x)) >>= fun v => pure (Next.value v)).run P w = _
    rw [ha.ev hx, Sem.run_bind]
    simp [convert, run_underlying hs0, run_underlying ht.und, Conv.intToInt, hb]) k
theorem run_sliceAt_to {t e sz by_ : Nat} [ht : SliceTy P t e sz by_] {A : Option Addr} {m c : Nat} {kd : IntKind} {b : Int} (h0 : 0 ≤ b) (h1 : b ≤ (c : Int)) (w : World) :
    (Instr.sliceAt t (.slice A m c) none (some (.int kd b)) none).run P w = .ok (.slice A b.toNat c) w := by
  obtain ⟨inf, z, hi2, hsz, _⟩ := ht.info
  have h3 : A.map (fun a => a.add 0) = A := by cases A <;> simp [Addr.add]
  simp [Instr.sliceAt, Instr.slice, Instr.sliceBounds, Instr.sliceBound, asIntOf, run_underlying ht.und, h0, h1, sizeOf, typeInfo, hi2, h3]
theorem all_drop {α : Type} (En : Enc α) (l : List α) (k : Nat) : En.all (l.drop k) = (En.all l).drop (k * En.sz) := by
  induction k generalizing l with
  | zero => simp
  | succ k ih =>
    cases l with
    | nil => simp [Enc.all]
    | cons x l =>
      rw [List.drop_succ_cons, ih]
      simp only [Enc.all, List.flatMap_cons]
      rw [Nat.add_mul, Nat.one_mul, Nat.add_comm, ← List.drop_drop, ← En.len x, List.drop_left]
theorem all_take_get {α : Type} (En : Enc α) (l : List α) (k i : Nat) (v : Value) (h : (En.all (l.take k))[i]? = some v) : (En.all l)[i]? = some v := by
  have h1 := En.all_append (l.take k) (l.drop k)
  rw [List.take_append_drop] at h1
  rw [h1, List.getElem?_append_left (List.getElem?_eq_some_iff.1 h).1]; exact h
theorem reads_sub {α : Type} {En : Enc α} {A : Option Addr} {c : Nat} {l : List α} {R : HProp} (hR : Reads R En A l) (hc : l.length ≤ c) (a b : Nat) (hb : b ≤ l.length) :
    Reads R En (if c = a then A else A.map (·.add (a * En.sz))) ((l.drop a).take (b - a)) := by
  intro f w hf hw
  by_cases he : (l.drop a).take (b - a) = []
  · exact .inl he
  right
  have hab : a < b := by
    rcases Nat.lt_or_ge a b with h | h
    · exact h
    · exfalso; apply he; rw [show b - a = 0 from by omega, List.take_zero]
  rcases hR f w hf hw with h0 | ⟨g, off, hA, hcell⟩
  · exfalso; apply he; subst h0; simp
  · refine ⟨g, off + a * En.sz, ?_, fun i v hv => ?_⟩
    · rw [if_neg (by omega), hA]; simp [add_off]
    · have h1 := all_take_get En _ _ i v hv
      rw [all_drop, List.getElem?_drop] at h1
      rw [Nat.add_assoc]; exact hcell _ _ h1
theorem W.slice_ro {α : Type} {En : Enc α} {t e by_ : Nat} {x : Operand} {lo hi : Option Operand} {A : Option Addr} {c : Nat} {l : List α} {ka kb : IntKind} {a b : Int} {R : HProp} [ht : SliceTy P t e En.sz by_]
    (hx : ev xs x = some (.slice A l.length c)) (hlo : (lo = none ∧ a = 0) ∨ ∃ q, lo = some q ∧ ev xs q = some (.int ka a)) (hhi : (hi = none ∧ b = l.length) ∨ ∃ q, hi = some q ∧ ev xs q = some (.int kb b))
    (hR : Reads R En A l) (hc : l.length ≤ c) (h0 : 0 ≤ a) (h1 : a ≤ b) (h2 : b ≤ l.length) (hd : fits n d = true)
    (k : ∀ A' c', ((l.drop a.toNat).take (b.toNat - a.toNat)).length ≤ c' → Reads R En A' ((l.drop a.toNat).take (b.toNat - a.toNat)) → W P n o sr ops Q St rest (put d (.slice A' ((l.drop a.toNat).take (b.toNat - a.toNat)).length c') xs) hs) :
    W P n o sr ops Q St (⟨d, .slice t x lo hi none, ty, pos, af, none⟩ :: rest) xs hs := by
  have hlen : ((l.drop a.toNat).take (b.toNat - a.toNat)).length = b.toNat - a.toNat := by rw [List.length_take, List.length_drop]; omega
  refine W.val rfl (by simp only [kind]; first | (intro h; cases h; done) | (repeat' split) <;> (intro h; cases h)) hd (fun ac w ha => ?_) (k (if c = a.toNat then A else A.map (·.add (a.toNat * En.sz))) (c - a.toNat) (by omega) (reads_sub hR hc a.toNat b.toNat (by omega)))
  rw [hlen]
  have hrun : (Instr.sliceAt t (.slice A l.length c) (lo.map ac.eval) (hi.map ac.eval) none).run P w = .ok (.slice (if c = a.toNat then A else A.map (·.add (a.toNat * En.sz))) (b.toNat - a.toNat) (c - a.toNat)) w := by
    obtain ⟨inf, z, hi2, hsz, _⟩ := ht.info
    have hb0 : 0 ≤ b := by omega
    have hbc : b ≤ (c : Int) := by omega
    have hbt : ((b.toNat : Nat) : Int) = b := Int.toNat_of_nonneg hb0
    have hA0 : A.map (fun a => a.add 0) = A := by cases A <;> simp [Addr.add]
    rcases hlo with ⟨rfl, rfl⟩ | ⟨q, rfl, hl⟩ <;> rcases hhi with ⟨rfl, rfl⟩ | ⟨q', rfl, hh⟩
    · simp [Instr.sliceAt, Instr.slice, Instr.sliceBounds, run_underlying ht.und, sizeOf, typeInfo, hi2, hA0]
    · simp [Instr.sliceAt, Instr.slice, Instr.sliceBounds, Instr.sliceBound, asIntOf, run_underlying ht.und, sizeOf, typeInfo, hi2, hA0, ha.ev hh, hb0, hbc]
    · simp [Instr.sliceAt, Instr.slice, Instr.sliceBounds, Instr.sliceBound, asIntOf, run_underlying ht.und, sizeOf, typeInfo, hi2, hsz, ha.ev hl, h0, h1]
    · simp [Instr.sliceAt, Instr.slice, Instr.sliceBounds, Instr.sliceBound, asIntOf, run_underlying ht.und, sizeOf, typeInfo, hi2, hsz, ha.ev hl, ha.ev hh, h0, h1, hb0, hbc, hbt]
  show ((Instr.sliceAt t (ac.eval x) (lo.map ac.eval) (hi.map ac.eval) none) >>= fun v => pure (Next.value v)).run P w = _
  rw [ha.ev hx, Sem.run_bind, hrun]; rfl
class StructTy (P : Program) (t : TypeId) (z : outParam (List Value)) (offs : outParam (List (Nat × Nat))) : Prop where
  run : ∀ (parts : Array (Nat × Value)) (cells : Array Value) (w : World), Instr.fill (offs[·]?) z.toArray parts.toList = some cells → (Instr.build t parts).run P w = .ok (.agg cells) w
def structB (P : Program) (t : TypeId) : Option (List Value × List (Nat × Nat)) :=
  match P.underlying t with
  | some (.struct fs) => match (P.info? t).bind (·.zero) with
    | some z => ((fs.toList.mapM (m := Option) fun f => (P.info? f.type).map fun i => (f.offset, i.size))).map fun offs => (z.cells.toList, offs)
    | none => none
  | _ => none
theorem run_places (P : Program) (w : World) : ∀ (fs : List Field) (offs : List (Nat × Nat)), fs.mapM (m := Option) (fun f => (P.info? f.type).map fun i => (f.offset, i.size)) = some offs →
    (fs.mapM (m := Sem) fun f => do pure (f.offset, ← sizeOf f.type)).run P w = .ok offs w := by
  intro fs
  induction fs with
  | nil => intro offs h; simp at h; subst h; rfl
  | cons f fs ih =>
    intro offs h
    rw [List.mapM_cons] at h ⊢
    cases hi : P.info? f.type with
    | none => simp [hi] at h
    | some i =>
      cases hr : fs.mapM (m := Option) (fun f => (P.info? f.type).map fun i => (f.offset, i.size)) with
      | none => simp [hi, hr] at h
      | some r =>
        simp [hi, hr] at h
        subst h
        have h1 := ih r hr
        simp only [Sem.run_bind, sizeOf, typeInfo, run_program, hi, Sem.run_pure, Result.andThen_ok] at h1 ⊢
        rw [h1]; rfl
theorem StructTy.of {t : TypeId} {z : List Value} {offs : List (Nat × Nat)} (h : structB P t = some (z, offs)) : StructTy P t z offs := by
  refine ⟨fun parts cells w hf => ?_⟩
  unfold structB at h
  split at h
  · rename_i fs hu
    split at h
    · rename_i zv hz
      cases hm : fs.toList.mapM (m := Option) (fun f => (P.info? f.type).map fun i => (f.offset, i.size)) with
      | none => rw [hm] at h; cases h
      | some os =>
        rw [hm] at h
        simp only [Option.map_some, Option.some.injEq, Prod.mk.injEq] at h
        obtain ⟨rfl, rfl⟩ := h
        have h1 := run_places P w fs.toList os hm
        have hz2 : (zeroValue t).run P w = .ok zv w := by
          cases hi : P.info? t with
          | none => rw [hi] at hz; cases hz
          | some i => rw [hi] at hz; simp only [Option.bind_some] at hz; simp [zeroValue, typeInfo, hi, hz]
        have h2 : (fs.mapM (m := Sem) fun f => do pure (f.offset, ← sizeOf f.type)).run P w = .ok os.toArray w := by
          rw [Array.mapM_eq_mapM_toList]
          simp only [Sem.run_map, h1, Result.andThen_ok]
        simp only [Array.toArray_toList] at hf
        have hf' : Instr.fill (os.toArray[·]?) zv.cells parts.toList = some cells := by simpa using hf
        simp only [Instr.build, Sem.run_bind, hz2, Result.andThen_ok, run_underlying hu, h2, hf', Sem.run_pure]
    · cases h
  · cases h
theorem W.build {t : TypeId} {parts : Array (Nat × Operand)} {es : List (Nat × Value)} {z : List Value} {offs : List (Nat × Nat)} {cells : Array Value} [ht : StructTy P t z offs]
    (hp : parts.toList.map (fun p => (p.1, ev xs p.2)) = es.map (fun p => (p.1, some p.2))) (hf : Instr.fill (offs[·]?) z.toArray es = some cells) (hd : fits n d = true)
    (k : W P n o sr ops Q St rest (put d (.agg cells) xs) hs) : W P n o sr ops Q St (⟨d, .build t parts, ty, pos, af, none⟩ :: rest) xs hs := by
  refine W.val rfl (by simp [kind]) hd (fun a w ha => ?_) k
  have hparts : (parts.map fun p => (p.1, a.eval p.2)).toList = es := by
    have key : ∀ (ps : List (Nat × Operand)) (es : List (Nat × Value)), ps.map (fun p => (p.1, ev xs p.2)) = es.map (fun p => (p.1, some p.2)) → ps.map (fun p => (p.1, a.eval p.2)) = es := by
      intro ps
      induction ps with
      | nil => intro es h; cases es with
        | nil => rfl
        | cons => cases h
      | cons p ps ih => intro es h; cases es with
        | nil => cases h
        | cons q es =>
          simp only [List.map_cons, List.cons.injEq, Prod.mk.injEq] at h ⊢
          exact ⟨by rw [Prod.mk.injEq]; exact ⟨h.1.1, ha.ev h.1.2⟩, ih es h.2⟩
    simpa using key _ _ hp
  show ((Instr.build t (parts.map fun p => (p.1, a.eval p.2))) >>= fun v => pure (Next.value v)).run P w = _
  rw [Sem.run_bind, ht.run _ cells w (by rw [hparts]; exact hf)]; rfl
end
end Go.SL
