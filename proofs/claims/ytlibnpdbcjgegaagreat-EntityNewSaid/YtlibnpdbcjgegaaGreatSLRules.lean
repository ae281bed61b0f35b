/-
  Rules of a small separation logic for the model's operations: what is known of a frame's slots, and one rule for each kind of operation.
-/
import Derived.Test.YtlibnpdbcjgegaaGreatSLOrder
namespace Go.SL
set_option linter.unusedVariables false

/-! ### What is known of the slots -/
abbrev Env := List (Nat × Value)
def get : Env → Nat → Option Value
  | [], _ => none
  | (k, v) :: r, t => bif Nat.beq k t then some v else get r t
def ev (xs : Env) : Operand → Option Value
  | .tmp t => get xs t
  | .const v => some v
  | .global g => some (.pointer (some ⟨g, 0, none⟩))
  | .func f => some (.func (.func f) #[] #[])
structure Ok (n : Nat) (xs : Env) (a : Act) : Prop where
  size : a.tmps.size = n
  defers : a.defers = []
  get : ∀ t v, get xs t = some v → a.tmps[t]? = some v
theorem Ok.ev {n : Nat} {xs : Env} {a : Act} (h : Ok n xs a) {x : Operand} {v : Value} (hx : ev xs x = some v) : a.eval x = v := by
  cases x with
  | tmp t => have := h.get t v hx; simp [Act.eval, this]
  | const u => exact Option.some.inj hx
  | global g => exact Option.some.inj hx
  | func f => exact Option.some.inj hx
def put : Option Tmp → Value → Env → Env
  | some d, v, xs => (d, v) :: xs
  | none, _, xs => xs
def fits (n : Nat) : Option Tmp → Bool
  | some d => Nat.blt d n
  | none => true
theorem Ok.put {n : Nat} {xs : Env} {a : Act} (h : Ok n xs a) {d : Option Tmp} (hd : fits n d = true) (v : Value) : Ok n (put d v xs) (a.put d v) := by
  cases d with
  | none => exact h
  | some d =>
    have hlt : d < n := by simpa [fits, Nat.blt_eq] using hd
    refine ⟨by simp [Act.put, h.size], h.defers, fun t u hu => ?_⟩
    simp only [SL.put, SL.get] at hu
    by_cases e : d = t
    · subst e
      simp only [Nat.beq_refl, cond_true, Option.some.injEq] at hu
      subst hu
      simp [Act.put, h.size, hlt]
    · have hne : Nat.beq d t = false := by rw [← Bool.not_eq_true, Nat.beq_eq]; exact e
      rw [hne, cond_false] at hu
      have := h.get t u hu
      simp [Act.put, e, this]
def Sub : Env → Env → Prop
  | [], _ => True
  | (t, v) :: r, xs => get xs t = some v ∧ Sub r xs
theorem Ok.sub {n : Nat} {xs ys : Env} {a : Act} (h : Ok n xs a) (hs : Sub ys xs) : Ok n ys a := by
  refine ⟨h.size, h.defers, ?_⟩
  induction ys with
  | nil => intro t v hv; cases hv
  | cons p r ih =>
    intro t v hv
    obtain ⟨k, u⟩ := p
    simp only [SL.get] at hv
    by_cases e : k = t
    · subst e
      simp only [Nat.beq_refl, cond_true, Option.some.injEq] at hv
      subst hv
      exact h.get _ _ hs.1
    · have hne : Nat.beq k t = false := by rw [← Bool.not_eq_true, Nat.beq_eq]; exact e
      rw [hne, cond_false] at hv
      exact ih hs.2 t v hv

/-! ### The two judgements -/
abbrev Post := Exit → Act → World → Prop
structure W (P : Program) (n : Nat) (o : Outer) (sr : List Tmp) (ops : Array Oper) (Q : Post) (St : List HProp) (rest : List Oper) (xs : Env) (hs : List HProp) : Prop where
  run : ∀ a w, Ok n xs a → Sat o w hs → wpK P sr ops Q St rest a w
structure C (P : Program) (n : Nat) (o : Outer) (Q : Post) (c : Code) (xs : Env) (hs : List HProp) : Prop where
  run : ∀ a w, Ok n xs a → Sat o w hs → c.wp P Q a w
instance {P : Program} {n : Nat} {o : Outer} {sr : List Tmp} {ops : Array Oper} {Q : Post} {St : List HProp} {rest : List Oper} {xs : Env} {hs : List HProp} : CoeFun (W P n o sr ops Q St rest xs hs) (fun _ => ∀ a w, Ok n xs a → Sat o w hs → wpK P sr ops Q St rest a w) := ⟨W.run⟩
instance {P : Program} {n : Nat} {o : Outer} {Q : Post} {c : Code} {xs : Env} {hs : List HProp} : CoeFun (C P n o Q c xs hs) (fun _ => ∀ a w, Ok n xs a → Sat o w hs → c.wp P Q a w) := ⟨C.run⟩
/-- The code's end, by the way e. -/
structure E (n : Nat) (o : Outer) (Q : Post) (e : Exit) (xs : Env) (hs : List HProp) : Prop where
  run : ∀ a w, Ok n xs a → Sat o w hs → Q e a w
instance {n : Nat} {o : Outer} {Q : Post} {e : Exit} {xs : Env} {hs : List HProp} : CoeFun (E n o Q e xs hs) (fun _ => ∀ a w, Ok n xs a → Sat o w hs → Q e a w) := ⟨E.run⟩

section
variable {P : Program} {n : Nat} {o : Outer} {sr : List Tmp} {ops : Array Oper} {Q : Post} {St : List HProp} {rest : List Oper} {xs : Env} {hs : List HProp} {ob : Oper}

theorem W.lift {hs' : List HProp} (h : Lift hs hs') (k : W P n o sr ops Q St rest xs hs') : W P n o sr ops Q St rest xs hs := ⟨fun a w ha hw => k a w ha (hw.lift h)⟩
theorem C.lift {c : Code} {hs' : List HProp} (h : Lift hs hs') (k : C P n o Q c xs hs') : C P n o Q c xs hs := ⟨fun a w ha hw => k a w ha (hw.lift h)⟩
theorem C.cut {c : Code} (ys : Env) (hs' : List HProp) (h : Sub ys xs) (e : Lift hs hs') (k : C P n o Q c ys hs') : C P n o Q c xs hs := ⟨fun a w ha hw => k a w (ha.sub h) (hw.lift e)⟩
theorem W.env (ys : Env) (h : Sub ys xs) (k : W P n o sr ops Q St rest ys hs) : W P n o sr ops Q St rest xs hs := ⟨fun a w ha hw => k a w (ha.sub h) hw⟩
theorem E.lift {e : Exit} {hs' : List HProp} (h : Lift hs hs') (k : E n o Q e xs hs') : E n o Q e xs hs := ⟨fun a w ha hw => k a w ha (hw.lift h)⟩

/-! codes -/
theorem C.seq {x y : Code} (h : C P n o (Exit.then (y.wp P Q) Q) x xs hs) : C P n o Q (.seq x y) xs hs := ⟨fun a w ha hw => wp_seq (h a w ha hw)⟩
theorem C.region {id : Nat} {l : List Oper} (h : W P n o [] l.toArray Q [] l xs hs) : C P n o Q (.region id l.toArray false) xs hs := ⟨fun a w ha hw => wp_region_lit (wpList_of _ _ _ _ (h a w ha hw))⟩
/-- A region whose order is open. -/
theorem C.region_draw (sr : List Tmp) (π : List Nat) {id : Nat} {l : List Oper} (hm : P.follows .mixedOrders = true) (hc : calmB P sr l π = true) (hQ : Calm Q) (h : W P n o sr l.toArray Q [] (pick l.toArray π) xs hs) : C P n o Q (.region id l.toArray true) xs hs :=
  ⟨fun a w ha hw => wp_region_calm hm hQ hc (h a _ ha (hw.drawn _))⟩
theorem C.region_draw0 (sr : List Tmp) {id : Nat} {l : List Oper} (hm : P.follows .mixedOrders = true) (hc : calmB P sr l (List.range l.length) = true) (hQ : Calm Q) (h : W P n o sr l.toArray Q [] l xs hs) : C P n o Q (.region id l.toArray true) xs hs :=
  C.region_draw sr (List.range l.length) hm hc hQ (by rw [pick_all]; exact h)
theorem C.skip (h : E n o Q .normal xs hs) : C P n o Q .skip xs hs := ⟨fun a w ha hw => wp_skip (h a w ha hw)⟩
theorem C.label {l : Nat} (h : E n o Q .normal xs hs) : C P n o Q (.label l) xs hs := ⟨fun a w ha hw => wp_label (h a w ha hw)⟩
theorem C.ret (h : E n o Q .ret xs hs) : C P n o Q .ret xs hs := ⟨fun a w ha hw => wp_ret (h a w ha hw)⟩
theorem C.exit {id : Nat} (h : E n o Q (.exit id) xs hs) : C P n o Q (.exit id) xs hs := ⟨fun a w ha hw => wp_exit (h a w ha hw)⟩
theorem C.block {id : Nat} {c : Code} (h : C P n o (Exit.inBlock id Q) c xs hs) : C P n o Q (.block id c) xs hs := ⟨fun a w ha hw => wp_block (h a w ha hw)⟩
theorem C.cond {c : Operand} {x y : Code} {b : Bool} (hc : ev xs c = some (.bool b)) (ht : b = true → C P n o Q x xs hs) (hf : b = false → C P n o Q y xs hs) : C P n o Q (.cond c x y) xs hs :=
  ⟨fun a w ha hw => wp_cond_split (ha.ev hc) (fun e => ht e a w ha hw) (fun e => hf e a w ha hw)⟩
theorem C.cond_true {c : Operand} {x y : Code} (hc : ev xs c = some (.bool true)) (ht : C P n o Q x xs hs) : C P n o Q (.cond c x y) xs hs :=
  ⟨fun a w ha hw => wp_cond_true (ha.ev hc) (ht a w ha hw)⟩
theorem C.cond_false {c : Operand} {x y : Code} (hc : ev xs c = some (.bool false)) (ht : C P n o Q y xs hs) : C P n o Q (.cond c x y) xs hs :=
  ⟨fun a w ha hw => wp_cond_false (ha.ev hc) (ht a w ha hw)⟩
theorem C.loop {σ : Type} (I : σ → Prop) (X : σ → Env) (H : σ → List HProp) (m : σ → Nat) (s : σ) {c : Code} (hi : I s) (hx : Sub (X s) xs) (hh : Ent hs (H s) [])
    (round : ∀ s, I s → C P n o (Exit.then (fun a w => ∃ s', (I s' ∧ m s' < m s) ∧ Ok n (X s') a ∧ Sat o w (H s')) Q) c (X s) (H s)) : C P n o Q (.loop c) xs hs := by
  constructor; intro a w ha hw
  refine wp_loop_ghost (fun k a w => ∃ s, (I s ∧ m s = k) ∧ Ok n (X s) a ∧ Sat o w (H s)) (m s) ⟨s, ⟨hi, rfl⟩, ha.sub hx, by have := hw.lift hh.lift; rwa [List.append_nil] at this⟩ ?_
  rintro k a w ⟨s, ⟨hi, rfl⟩, ha, hw⟩
  refine wp_mono (round s hi a w ha hw) ?_
  intro e a' w' hq
  cases e with
  | normal => obtain ⟨s', ⟨h0, h1⟩, h2, h3⟩ := hq; exact ⟨m s', h1, s', ⟨h0, rfl⟩, h2, h3⟩
  | exit id => exact hq
  | goto l => exact hq
  | ret => exact hq
  | panic ch => exact hq
  | outgrown => exact hq

/-! ends -/
theorem W.nil (h : E n o Q .normal xs hs) : W P n o sr ops Q St [] xs hs := ⟨fun a w ha hw => h a w ha hw⟩
theorem E.then_normal {y : Code} (h : C P n o Q y xs hs) : E n o (Exit.then (y.wp P Q) Q) .normal xs hs := ⟨fun a w ha hw => h a w ha hw⟩
theorem E.then_exit {K : Act → World → Prop} {id : Nat} (h : E n o Q (.exit id) xs hs) : E n o (Exit.then K Q) (.exit id) xs hs := ⟨fun a w ha hw => h a w ha hw⟩
theorem E.then_ret {K : Act → World → Prop} (h : E n o Q .ret xs hs) : E n o (Exit.then K Q) .ret xs hs := ⟨fun a w ha hw => h a w ha hw⟩
theorem E.block_normal {id : Nat} (h : E n o Q .normal xs hs) : E n o (Exit.inBlock id Q) .normal xs hs := ⟨fun a w ha hw => h a w ha hw⟩
theorem E.block_ret {id : Nat} (h : E n o Q .ret xs hs) : E n o (Exit.inBlock id Q) .ret xs hs := ⟨fun a w ha hw => h a w ha hw⟩
theorem E.block_exit {id : Nat} (h : E n o Q .normal xs hs) : E n o (Exit.inBlock id Q) (.exit id) xs hs := by
  constructor; intro a w ha hw
  show if id = id then Q .normal a w else Q (.exit id) a w
  rw [if_pos rfl]; exact h a w ha hw
theorem E.block_past {id id' : Nat} (hne : Nat.beq id' id = false) (h : E n o Q (.exit id') xs hs) : E n o (Exit.inBlock id Q) (.exit id') xs hs := by
  constructor; intro a w ha hw
  show if id' = id then Q .normal a w else Q (.exit id') a w
  rw [if_neg (fun e => by subst e; simp at hne)]; exact h a w ha hw
theorem E.round {σ : Type} {I : σ → Prop} {X : σ → Env} {H : σ → List HProp} {m : σ → Nat} {k : Nat} (s' : σ) (hi : I s') (hm : m s' < k) (hx : Sub (X s') xs) (hh : Ent hs (H s') []) :
    E n o (Exit.then (fun a w => ∃ s', (I s' ∧ m s' < k) ∧ Ok n (X s') a ∧ Sat o w (H s')) Q) .normal xs hs :=
  ⟨fun _ _ ha hw => ⟨s', ⟨hi, hm⟩, ha.sub hx, by have := hw.lift hh.lift; rwa [List.append_nil] at this⟩⟩

/-! contracts -/
/-- f called at these arguments, where hs and whatever else hold: it comes back, with v and Ps such that q v Ps, and all else as it was. -/
structure Trip (P : Program) (f : FuncId) (args : List Value) (Pre : List HProp) (q : Value → List HProp → Prop) : Prop where
  run : ∀ (o : Outer) (w : World) (Rs : List HProp), Sat o w (Pre ++ Rs) → Calls P f args.toArray w fun e w' => ∃ v Ps, e = .returned v ∧ q v Ps ∧ Sat o w' (Ps ++ Rs)
def enumFrom : Nat → List Value → Env
  | _, [] => []
  | k, v :: r => (k, v) :: enumFrom (k + 1) r
theorem get_enumFrom : ∀ (k : Nat) (l : List Value) (t : Nat) (v : Value), get (enumFrom k l) t = some v → k ≤ t ∧ l[t - k]? = some v
  | _, [], _, _, h => by cases h
  | k, u :: r, t, v, h => by
    simp only [enumFrom, get] at h
    by_cases e : k = t
    · subst e; simp only [Nat.beq_refl, cond_true] at h; simpa using h
    · have hne : Nat.beq k t = false := by rw [← Bool.not_eq_true, Nat.beq_eq]; exact e
      rw [hne, cond_false] at h
      obtain ⟨h1, h2⟩ := get_enumFrom (k + 1) r t v h
      refine ⟨by omega, ?_⟩
      rw [show t - k = (t - (k + 1)) + 1 from by omega]; simpa using h2
def bodyQ (P : Program) (fn : Func) (o : Outer) (Rs : List HProp) (q : Value → List HProp → Prop) : Post :=
  bodyPost P fn (fun e w' => ∃ v Ps, e = .returned v ∧ q v Ps ∧ Sat o w' (Ps ++ Rs))
theorem Trip.of {f : FuncId} {fn : Func} {c : Code} {m : Nat} {args : List Value} {Pre : List HProp} {q : Value → List HProp → Prop} (hf : P.funcs[f]? = some fn) (hb : fn.body = some c)
    (hm : fn.ntmps = m) (hn : Nat.ble args.length m = true)
    (h : ∀ (o : Outer) (Rs : List HProp), C P m o (bodyQ P fn o Rs q) c (enumFrom 0 args) (Pre ++ Rs)) : Trip P f args Pre q := by
  constructor; intro o w Rs hw
  subst hm
  refine calls_of_wp hf hb (h o Rs _ _ ⟨?_, rfl, fun t v hv => ?_⟩ hw)
  · have := Nat.le_of_ble_eq_true hn; simp; omega
  · obtain ⟨_, h2⟩ := get_enumFrom 0 args t v hv
    have ht : t < args.length := by
      have := (List.getElem?_eq_some_iff.1 h2).1; omega
    rw [Nat.sub_zero] at h2
    rw [Array.getElem?_append_left (by simpa using ht)]
    simpa using h2
theorem calm_body {fn : Func} {Rs : List HProp} {q : Value → List HProp → Prop} : Calm (bodyQ P fn o Rs q) :=
  ⟨fun c a w h => (by obtain ⟨_, v, Ps, e, _⟩ := h; cases e), fun a w h => (by obtain ⟨v, Ps, e, _⟩ := h; cases e)⟩
theorem E.body {fn : Func} {Rs Ps : List HProp} {q : Value → List HProp → Prop} {e : Exit} (he : e = .ret ∨ e = .normal) (v : Value)
    (hr : ∀ a w, Ok n xs a → Sat o w hs → (results fn a.tmps).run P w = .ok v w) (hq : q v Ps) (hh : Ent hs Ps Rs) : E n o (bodyQ P fn o Rs q) e xs hs := by
  constructor; intro a w ha hw
  have : bodyPost P fn (fun e w' => ∃ v Ps, e = .returned v ∧ q v Ps ∧ Sat o w' (Ps ++ Rs)) .ret a w :=
    ⟨ha.defers, v, hr a w ha hw, v, Ps, rfl, hq, hw.lift hh.lift⟩
  rcases he with rfl | rfl
  · exact this
  · exact this
theorem E.body0 {fn : Func} (hf : fn.results = #[]) {Rs Ps : List HProp} {q : Value → List HProp → Prop} {e : Exit} (he : e = .ret ∨ e = .normal)
    (hq : q (.tuple #[]) Ps) (hh : Ent hs Ps Rs) : E n o (bodyQ P fn o Rs q) e xs hs :=
  E.body he _ (fun a w _ _ => results_none hf a.tmps P w) hq hh
theorem E.body1 {fn : Func} {t : Tmp} (hf : fn.results = #[.tmp t]) {Rs Ps : List HProp} {q : Value → List HProp → Prop} {e : Exit} (he : e = .ret ∨ e = .normal) {v : Value}
    (hv : get xs t = some v) (hq : q v Ps) (hh : Ent hs Ps Rs) : E n o (bodyQ P fn o Rs q) e xs hs :=
  E.body he _ (fun a w ha _ => by rw [results_tmp hf, Array.getD_eq_getD_getElem?, ha.get t v hv]; rfl) hq hh
theorem E.body2 {fn : Func} {t u : Tmp} (hf : fn.results = #[.tmp t, .tmp u]) {Rs Ps : List HProp} {q : Value → List HProp → Prop} {e : Exit} (he : e = .ret ∨ e = .normal) {v v' : Value}
    (hv : get xs t = some v) (hv' : get xs u = some v') (hq : q (.tuple #[v, v']) Ps) (hh : Ent hs Ps Rs) : E n o (bodyQ P fn o Rs q) e xs hs :=
  E.body he _ (fun a w ha _ => by rw [results_tmp2 hf, Array.getD_eq_getD_getElem?, Array.getD_eq_getD_getElem?, ha.get t v hv, ha.get u v' hv']; rfl) hq hh

/-! operations -/
/-- All of St stand in hs. -/
inductive Incl : List HProp → List HProp → Prop
  | nil {hs : List HProp} : Incl [] hs
  | cons {R : HProp} {St hs r : List HProp} : Find hs R r → Incl St hs → Incl (R :: St) hs
theorem Find.mem {hs : List HProp} {A : HProp} {r : List HProp} (h : Find hs A r) : A ∈ hs := by
  induction h with
  | here => exact List.mem_cons_self
  | there _ ih => exact List.mem_cons_of_mem _ ih
theorem Sat.holds {w : World} {R : HProp} (h : Sat o w hs) (hR : R ∈ hs) : SL.holds R w := by
  obtain ⟨_, l, h1, h2, _⟩ := h
  subst h1
  obtain ⟨p, hp, rfl⟩ := List.mem_map.1 hR
  exact ⟨p.2, h2 p hp⟩
theorem Incl.holds {w : World} (h : Incl St hs) (hs' : Sat o w hs) : ∀ R ∈ St, SL.holds R w := by
  induction h with
  | nil => intro R hR; cases hR
  | cons hf _ ih =>
    intro R hR
    rcases List.mem_cons.1 hR with e | hR
    · exact e ▸ hs'.holds hf.mem
    · exact ih hs' R hR
theorem Incl.there {A : HProp} (h : Incl St hs) : Incl St (A :: hs) := by
  induction h with
  | nil => exact .nil
  | cons hf _ ih => exact .cons (.there hf) ih
theorem Find.app {Ps hs r : List HProp} {A : HProp} (h : Find hs A r) : Find (Ps ++ hs) A (Ps ++ r) := by
  induction Ps with
  | nil => exact h
  | cons P Ps ih => exact .there ih
theorem Incl.app {Ps : List HProp} (h : Incl St hs) : Incl St (Ps ++ hs) := by
  induction h with
  | nil => exact .nil
  | cons hf _ ih => exact .cons hf.app ih
theorem W.op (hg : ob.guard = none) (hk : kind P ob.op = .eff) (hd : fits n ob.dst = true)
    (h : ∀ a w, Ok n xs a → Sat o w hs → ∃ v w' hs', (execOp a.eval ob).run P w = .ok (.value v) w' ∧ Sat o w' hs' ∧ Incl St hs' ∧ W P n o sr ops Q St rest (put ob.dst v xs) hs') :
    W P n o sr ops Q St (ob :: rest) xs hs := by
  constructor; intro a w ha hw
  obtain ⟨v, w', hs', hr, hw', hi, k⟩ := h a w ha hw
  rw [wpK, if_pos (by simp [Region.wanted, hg]), hk]
  simp only [Oper.wp, hr, Oper.upon_value]
  exact ⟨fun _ => hi.holds hw', k _ _ (ha.put hd v) hw'⟩
/-- All of St stand in hs, or need not. -/
inductive Keep (b : Bool) : List HProp → List HProp → Prop
  | nil {hs : List HProp} : Keep b [] hs
  | free {St hs : List HProp} (h : b = true) : Keep b St hs
  | incl {St hs : List HProp} (h : Incl St hs) : Keep b St hs
theorem Keep.there {b : Bool} {A : HProp} (h : Keep b St hs) : Keep b St (A :: hs) := by
  cases h with
  | nil => exact .nil
  | free h => exact .free h
  | incl h => exact .incl (h.app (Ps := [A]))
theorem Keep.holds {b : Bool} {w : World} (h : Keep b St hs) (hw : Sat o w hs) (hb : b = false) : ∀ R ∈ St, SL.holds R w := by
  cases h with
  | nil => intro R hR; cases hR
  | free h => rw [h] at hb; cases hb
  | incl h => exact h.holds hw
theorem W.op_skip (hg : ob.guard = none) (hk : kind P ob.op = .eff) (hd : ob.dst = none)
    (h : ∀ a w, Ok n xs a → Sat o w hs → ∃ w' hs', (execOp a.eval ob).run P w = .ok .skip w' ∧ Sat o w' hs' ∧ Keep (freeSt sr ops ob) St hs' ∧ W P n o sr ops Q St rest xs hs') :
    W P n o sr ops Q St (ob :: rest) xs hs := by
  constructor; intro a w ha hw
  obtain ⟨w', hs', hr, hw', hI, k⟩ := h a w ha hw
  rw [wpK, if_pos (by simp [Region.wanted, hg]), hk]
  simp only [Oper.wp, hr, Oper.upon_skip, hd]
  exact ⟨fun hb => hI.holds hw' hb, k _ _ ha hw'⟩
/-- An operation that only computes, whatever the world. -/
theorem W.val {v : Value} (hg : ob.guard = none) (hk : kind P ob.op ≠ .eff) (hd : fits n ob.dst = true) (h : ∀ a, ∀ w, Ok n xs a → (execOp a.eval ob).run P w = .ok (.value v) w)
    (k : W P n o sr ops Q St rest (put ob.dst v xs) hs) : W P n o sr ops Q St (ob :: rest) xs hs := by
  constructor; intro a w ha hw
  have kk := k _ _ (ha.put hd v) hw
  have hT : ∀ w, SL.holds (fun f => f = emp) w := fun w => ⟨emp, rfl, Holds.emp w⟩
  rw [wpK, if_pos (by simp [Region.wanted, hg])]
  cases e : kind P ob.op with
  | pure => exact ⟨v, fun w' => h a w' ha, kk⟩
  | read =>
    simp only
    split
    · exact ⟨v, _, fun w' _ => h a w' ha, hT w, wpK_add hT (fun R hR => by rcases List.mem_cons.1 hR with e | hR; exact .inr e; exact .inl hR) kk⟩
    · exact ⟨v, h a w ha, kk⟩
  | eff => exact absurd e hk
/-- An operation that reads. -/
theorem W.read {v : Value} (hg : ob.guard = none) (hk : kind P ob.op = .read) (hs0 : stb sr ob = false) (hd : fits n ob.dst = true) (h : ∀ a w, Ok n xs a → Sat o w hs → (execOp a.eval ob).run P w = .ok (.value v) w)
    (k : W P n o sr ops Q St rest (put ob.dst v xs) hs) : W P n o sr ops Q St (ob :: rest) xs hs := by
  constructor; intro a w ha hw
  have kk := k _ _ (ha.put hd v) hw
  rw [wpK, if_pos (by simp [Region.wanted, hg]), hk]
  simp only [hs0, Bool.false_eq_true, if_false]
  exact ⟨v, h a w ha hw, kk⟩
/-- One that reads what R alone tells, and may stand behind what leaves R as it is. -/
theorem W.stay {v : Value} {R : HProp} {r : List HProp} (hg : ob.guard = none) (hk : kind P ob.op = .read) (hs0 : stb sr ob = true) (hd : fits n ob.dst = true) (hf : Find hs R r)
    (h : ∀ a w, Ok n xs a → SL.holds R w → (execOp a.eval ob).run P w = .ok (.value v) w)
    (k : W P n o sr ops Q (R :: St) rest (put ob.dst v xs) hs) : W P n o sr ops Q St (ob :: rest) xs hs := by
  constructor; intro a w ha hw
  have kk := k _ _ (ha.put hd v) hw
  rw [wpK, if_pos (by simp [Region.wanted, hg]), hk]
  simp only [hs0, if_true]
  exact ⟨v, R, fun w' h' => h a w' ha h', hw.holds hf.mem, kk⟩
/-- A guarded operation that is carried out; one that is not. -/
theorem W.guard_yes {d : Option Tmp} {op : Op} {ty : TypeId} {pos : String} {af : Array Edge} {j : Nat} {want : Bool} {t : Tmp} (hj : (ops[j]?).bind (·.dst) = some t) (hb : get xs t = some (.bool want))
    (k : W P n o sr ops Q St (⟨d, op, ty, pos, af, none⟩ :: rest) xs hs) : W P n o sr ops Q St (⟨d, op, ty, pos, af, some (j, want)⟩ :: rest) xs hs := by
  constructor; intro a w ha hw
  have := k a w ha hw
  have h1 : yielded ops a.tmps j = some want := by simp [yielded, hj, ha.get t _ hb]
  rw [wpK, if_pos (by simp [Region.wanted])] at this
  rw [wpK, if_pos (by simp [Region.wanted, h1])]
  exact this
theorem W.guard_no {d : Option Tmp} {op : Op} {ty : TypeId} {pos : String} {af : Array Edge} {j : Nat} {want b : Bool} {t : Tmp} (hj : (ops[j]?).bind (·.dst) = some t) (hb : get xs t = some (.bool b))
    (hne : b = !want) (hd : fits n d = true) (k : W P n o sr ops Q St rest (put d undef xs) hs) : W P n o sr ops Q St (⟨d, op, ty, pos, af, some (j, want)⟩ :: rest) xs hs := by
  constructor; intro a w ha hw
  have h1 : yielded ops a.tmps j = some b := by simp [yielded, hj, ha.get t _ hb]
  rw [wpK, if_neg (by subst hne; simp [Region.wanted, h1])]
  exact k _ _ (ha.put hd _) hw
end
end Go.SL
