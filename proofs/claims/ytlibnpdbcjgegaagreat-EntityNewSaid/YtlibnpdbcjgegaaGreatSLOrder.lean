/-
  A region whose order is open, by its operations in the text's order: if no two operations that may stand either way touch one another, every order does what the text's order does.
-/
import Derived.Test.YtlibnpdbcjgegaaGreatSLCore
import Derived.Orders
import Derived.Laws.Entries
namespace Go.SL

inductive Kind where
  | pure | read | eff
  deriving DecidableEq
def intLike (P : Program) (t : TypeId) : Bool := match P.underlying t with | some (.int _) | some .string | some .bool => true | _ => false
def kind (P : Program) : Op → Kind
  | .move _ | .assign _ | .pick .. | .nilCheck _ | .extract .. | .makeFunc .. | .unOp .. | .field .. | .index .. | .build .. => .pure
  | .fieldAddr s _ f => match P.underlying s with
    | some (.struct fs) => match fs[f]? with
      | some fl => match P.info? fl.type with
        | some i => if i.size = 0 then .read else .pure
        | none => .read
      | none => .read
    | _ => .read
  | .binOp _ t _ _ _ => if intLike P t then .pure else .read
  | .makeInterface .. => .pure
  | .convert _ dst _ => match P.underlying dst with
    | some (.int _) => .pure
    | some .string => .read
    | _ => .eff
  | .slice t _ _ _ _ => match P.underlying t with
    | some .string | some (.slice _) => .pure
    | _ => .read
  | .indexAddr t _ _ => match P.underlying t with
    | some (.slice _) => .pure
    | _ => .read
  | .load .. => .read
  | .typeAssert .. => .pure
  | .call c => match c.callee with
    | .builtin .len => match (c.argTypes[0]?).bind P.underlying with
      | some (.map ..) | some (.chan ..) => .read
      | _ => .pure
    | .builtin .cap | .builtin .max | .builtin .min => .pure
    | _ => .eff
  | _ => .eff

/-- Does a part of w's heap hold R? -/
def holds (R : HProp) (w : World) : Prop := ∃ f, R f ∧ Holds w f
/-- Is the operation a read that must stay what it is, whatever comes between (by its slot)? -/
def stbD (sr : List Tmp) : Option Tmp → Bool | some d => sr.contains d | none => false
def stb (sr : List Tmp) (o : Oper) : Bool := stbD sr o.dst
def isSt : Op → Bool
  | .store .. => true
  | .call _ => true
  | _ => false
/-- Is the store, the call behind each load that must stay? (T: what hangs on what, through others too.) -/
def aheadB (sr : List Tmp) (T : Array Nat) (af : List Edge) : List Oper → Nat → Bool
  | [], _ => true
  | x :: r, i => (!stb sr x || af.any fun e => Region.binds .any e && (Nat.beq e.on i || (T.getD e.on 0).testBit i)) && aheadB sr T af r (i + 1)
/-- Need it not keep what must stay? -/
def freeSt (sr : List Tmp) (ops : Array Oper) (o : Oper) : Bool := isSt o.op && (sr.isEmpty || aheadB sr (Region.before ops) o.after.toList ops.toList 0)
def wpK (P : Program) (sr : List Tmp) (ops : Array Oper) (Q : Exit → Act → World → Prop) : List HProp → List Oper → Act → World → Prop
  | _, [], a, w => Q .normal a w
  | St, o :: rest, a, w =>
    if Region.wanted o (yielded ops a.tmps) = true then
      match kind P o.op with
      | .pure => ∃ v, (∀ w', (execOp a.eval o).run P w' = .ok (.value v) w') ∧ wpK P sr ops Q St rest (a.put o.dst v) w
      | .read => if stb sr o = true then ∃ v R, (∀ w', holds R w' → (execOp a.eval o).run P w' = .ok (.value v) w') ∧ holds R w ∧ wpK P sr ops Q (R :: St) rest (a.put o.dst v) w
        else ∃ v, (execOp a.eval o).run P w = .ok (.value v) w ∧ wpK P sr ops Q St rest (a.put o.dst v) w
      | .eff => o.wp P a w (fun a w => (freeSt sr ops o = false → ∀ R ∈ St, holds R w) ∧ wpK P sr ops Q St rest a w) Q
    else wpK P sr ops Q St rest (a.put o.dst undef) w

section
variable {P : Program} {sr : List Tmp} {ops : Array Oper} {Q : Exit → Act → World → Prop}

theorem wpK_wp {St : List HProp} {o : Oper} {rest : List Oper} {a : Act} {w : World} (hw : Region.wanted o (yielded ops a.tmps) = true) (h : wpK P sr ops Q St (o :: rest) a w) :
    o.wp P a w (fun a w => ∃ St, wpK P sr ops Q St rest a w) Q := by
  unfold wpK at h
  rw [if_pos hw] at h
  split at h
  · obtain ⟨v, hv, hk⟩ := h; simp only [Oper.wp, hv w, Oper.upon_value]; exact ⟨_, hk⟩
  · split at h
    · obtain ⟨v, R, hv, hR, hk⟩ := h; simp only [Oper.wp, hv w hR, Oper.upon_value]; exact ⟨_, hk⟩
    · obtain ⟨v, hv, hk⟩ := h; simp only [Oper.wp, hv, Oper.upon_value]; exact ⟨_, hk⟩
  · exact Oper.wp_mono (fun a w h => ⟨_, h.2⟩) h
theorem wpK_off {St : List HProp} {o : Oper} {rest : List Oper} {a : Act} {w : World} (hw : Region.wanted o (yielded ops a.tmps) = false) (h : wpK P sr ops Q St (o :: rest) a w) : wpK P sr ops Q St rest (a.put o.dst undef) w := by
  unfold wpK at h
  rwa [if_neg (by simp [hw])] at h
theorem wpList_of : ∀ (l : List Oper) (St : List HProp) (a : Act) (w : World), wpK P sr ops Q St l a w → wpList P ops Q l a w
  | [], _, _, _, h => h
  | o :: rest, St, a, w, h => by
    unfold wpList
    cases hw : Region.wanted o (yielded ops a.tmps) with
    | true => simp only [if_true]; exact .inl (Oper.wp_mono (fun a w ⟨St, h⟩ => wpList_of rest St a w h) (wpK_wp hw h))
    | false => simp only [Bool.false_eq_true, if_false]; exact wpList_of rest _ _ _ (wpK_off hw h)

/-- No way out by a panic, or for want of room. -/
def Calm (Q : Exit → Act → World → Prop) : Prop := (∀ c a w, ¬ Q (.panic c) a w) ∧ ∀ a w, ¬ Q .outgrown a w
theorem Calm.then {Q : Exit → Act → World → Prop} {K : Act → World → Prop} (h : Calm Q) : Calm (Exit.then K Q) := h
theorem Calm.block {Q : Exit → Act → World → Prop} {id : Nat} (h : Calm Q) : Calm (Exit.inBlock id Q) := h

/-- May y, which stands behind x in the text, come first? -/
def swapB (P : Program) (sr : List Tmp) (ops : Array Oper) (x y : Oper) : Bool :=
  x.apart ops y && match kind P x.op, kind P y.op with
    | .pure, _ | _, .pure | .read, .read => true
    | .read, .eff => stb sr x && !freeSt sr ops y
    | _, _ => false
def noSel (o : Oper) : Bool := match o.op with | .select .. => false | _ => true
theorem noSel_spec {o : Oper} (h : noSel o = true) (cs : Array SelectCase) (b : Bool) : o.op ≠ .select cs b := by
  intro e; rw [noSel, e] at h; cases h

/-- Some state comes behind an operation that is no panic. -/
theorem wp_some {o : Oper} {a : Act} {w : World} {K : Act → World → Prop} (hQ : Calm Q) (h : o.wp P a w K Q) :
    ∃ (b : Act) (v : Value) (w' : World), K (b.put o.dst v) w' ∧ b.tmps = a.tmps := by
  unfold Oper.wp at h
  generalize (execOp a.eval o).run P w = r at h
  cases r with
  | ok n w' =>
    cases n <;> simp only [Oper.upon] at h
    case value v => exact ⟨a, v, w', h, rfl⟩
    case skip => exact ⟨a, _, w', h, rfl⟩
    case defer d => exact ⟨_, _, w', h, rfl⟩
    case enter f args =>
      obtain ⟨e, w2, fr, hR, _⟩ := h []
      cases e with
      | returned v => exact ⟨a, v, w2, hR, rfl⟩
      | panicked c => exact absurd hR (hQ.1 _ _ _)
      | outgrown => obtain ⟨a0, w0, hq⟩ := hR; exact absurd hq (hQ.2 _ _)
    case row row args =>
      obtain ⟨v, w2, hR, _⟩ := h default []
      exact ⟨a, v, w2, hR, rfl⟩
  | halt x w' =>
    cases x <;> simp only [Oper.upon] at h
    case panic v => exact absurd h (hQ.1 _ _ _)

theorem eval_tmps {a b : Act} (h : b.tmps = a.tmps) (x : Operand) : b.eval x = a.eval x := by cases x <;> simp [Act.eval, h]
theorem wp_put {o : Oper} {x : Option Tmp} {u : Value} {a : Act} {w : World} {K : Act → World → Prop} (hs : noSel o = true) (h1 : ∀ d, x = some d → d ∉ o.looksAt ops) (h2 : ∀ d, x = some d → o.dst ≠ some d)
    (hQ : ∀ c b w, Q (.panic c) (b.put x u) w → Q (.panic c) b w) (h : o.wp P (a.put x u) w K Q) : o.wp P a w (fun b w' => K (b.put x u) w') Q := by
  unfold Oper.wp at *
  rw [execOp_put o (noSel_spec hs) a x u h1] at h
  generalize (execOp a.eval o).run P w = r at *
  cases r with
  | ok n w' =>
    cases n <;> simp only [Oper.upon] at h ⊢
    case value v => rw [← Act.put_comm a u v h2]; exact h
    case skip => rw [← Act.put_comm a u undef h2]; exact h
    case defer d => rw [← Act.put_comm _ u undef h2, ← Act.put_defers]; exact h
    case enter f args =>
      refine Calls.mono h fun e w'' he => ?_
      cases e with
      | returned v => show K ((a.put o.dst v).put x u) w''; rw [← Act.put_comm a u v h2]; exact he
      | panicked c => exact hQ _ _ _ he
      | outgrown => exact he
    case row row args => exact Rows.mono h fun v w'' he => by show K ((a.put o.dst v).put x u) w''; rw [← Act.put_comm a u v h2]; exact he
  | halt y w' =>
    cases y <;> simp only [Oper.upon] at h ⊢
    case panic v => exact hQ _ _ _ h

theorem wpK_sub : ∀ {l : List Oper} {St St' : List HProp} {a : Act} {w : World}, (∀ R ∈ St', R ∈ St) → wpK P sr ops Q St l a w → wpK P sr ops Q St' l a w
  | [], _, _, _, _, _, h => h
  | o :: rest, St, St', a, w, hs, h => by
    unfold wpK at h ⊢
    split
    · rename_i hw
      rw [if_pos hw] at h
      split at h
      · obtain ⟨v, hv, h⟩ := h; exact ⟨v, hv, wpK_sub hs h⟩
      · split
        · rename_i hb; rw [if_pos hb] at h
          obtain ⟨v, R, hv, hR, h⟩ := h
          refine ⟨v, R, hv, hR, wpK_sub (fun R' h' => ?_) h⟩
          rcases List.mem_cons.1 h' with e | h'
          · exact e ▸ List.mem_cons_self
          · exact List.mem_cons_of_mem _ (hs R' h')
        · rename_i hb; rw [if_neg hb] at h
          obtain ⟨v, hv, h⟩ := h; exact ⟨v, hv, wpK_sub hs h⟩
      · exact Oper.wp_mono (fun a w h => ⟨fun hn R hR => h.1 hn R (hs R hR), wpK_sub hs h.2⟩) h
    · rename_i hw
      rw [if_neg hw] at h; exact wpK_sub hs h
/-- What holds everywhere may be asked besides. -/
theorem wpK_add {T : HProp} (hT : ∀ w, holds T w) : ∀ {l : List Oper} {St St' : List HProp} {a : Act} {w : World}, (∀ R ∈ St', R ∈ St ∨ R = T) → wpK P sr ops Q St l a w → wpK P sr ops Q St' l a w
  | [], _, _, _, _, _, h => h
  | o :: rest, St, St', a, w, hs, h => by
    unfold wpK at h ⊢
    split
    · rename_i hw
      rw [if_pos hw] at h
      split at h
      · obtain ⟨v, hv, h⟩ := h; exact ⟨v, hv, wpK_add hT hs h⟩
      · split
        · rename_i hb; rw [if_pos hb] at h
          obtain ⟨v, R, hv, hR, h⟩ := h
          refine ⟨v, R, hv, hR, wpK_add hT (fun R' h' => ?_) h⟩
          rcases List.mem_cons.1 h' with e | h'
          · exact .inl (e ▸ List.mem_cons_self)
          · exact (hs R' h').imp (List.mem_cons_of_mem _) id
        · rename_i hb; rw [if_neg hb] at h
          obtain ⟨v, hv, h⟩ := h; exact ⟨v, hv, wpK_add hT hs h⟩
      · exact Oper.wp_mono (fun a w h => ⟨fun hn R hR => (hs R hR).elim (fun h' => h.1 hn R h') (fun e => e ▸ hT w), wpK_add hT hs h.2⟩) h
    · rename_i hw
      rw [if_neg hw] at h; exact wpK_add hT hs h
/-- One operation carried out, whatever comes behind. -/
theorem step_off {St : List HProp} {o : Oper} {rest : List Oper} {a : Act} {w : World} (hw : Region.wanted o (yielded ops a.tmps) = false) (h : wpK P sr ops Q St rest (a.put o.dst undef) w) : wpK P sr ops Q St (o :: rest) a w := by
  rw [wpK, if_neg (by simp [hw])]; exact h
set_option linter.unusedVariables false in
/-- The wp of an operation, where its continuation is turned: the act may be one of the same slots. -/
theorem wp_turn {o : Oper} {a : Act} {w : World} {K K' : Act → World → Prop} {ρ : Operand → Value} (hρ : execOp ρ o = execOp a.eval o) (x : Option Tmp) (u : Value) (hQ : Calm Q)
    (h2 : ∀ d, x = some d → o.dst ≠ some d) (h : o.wp P a w K Q) (k : ∀ (b : Act) v w', b.tmps = a.tmps → K (b.put o.dst v) w' → K' ((Act.put b x u).put o.dst v) w')
    (hρ2 : (a.put x u).eval = ρ) : o.wp P (a.put x u) w K' Q := by
  unfold Oper.wp at h ⊢
  rw [hρ2, hρ]
  generalize (execOp a.eval o).run P w = r at h ⊢
  cases r with
  | ok n w' =>
    cases n <;> simp only [Oper.upon] at h ⊢
    case value v => exact k a v w' rfl h
    case skip => exact k a _ w' rfl h
    case defer d => rw [Act.put_defers]; exact k _ _ w' rfl h
    case enter f args =>
      refine Calls.mono h fun e w'' he => ?_
      cases e with
      | returned v => exact k a v w'' rfl he
      | panicked c => exact absurd he (hQ.1 _ _ _)
      | outgrown => exact he
    case row row args => exact Rows.mono h fun v w'' he => k a v w'' rfl he
  | halt z w' =>
    cases z <;> simp only [Oper.upon] at h ⊢ <;> first | exact h | exact absurd h (hQ.1 _ _ _)
/-- The same, of an act whose slot was turned before. -/
theorem wp_back {o : Oper} {a : Act} {w : World} {K K' : Act → World → Prop} (hs : noSel o = true) (x : Option Tmp) (u : Value) (hQ : Calm Q) (h1 : ∀ d, x = some d → d ∉ o.looksAt ops)
    (h : o.wp P (a.put x u) w K Q) (k : ∀ (b : Act) v w', b.tmps = a.tmps → K ((Act.put b x u).put o.dst v) w' → K' (b.put o.dst v) w') : o.wp P a w K' Q := by
  unfold Oper.wp at h ⊢
  rw [execOp_put o (noSel_spec hs) a x u h1] at h
  generalize (execOp a.eval o).run P w = r at h ⊢
  cases r with
  | ok n w' =>
    cases n <;> simp only [Oper.upon] at h ⊢
    case value v => exact k a v w' rfl h
    case skip => exact k a _ w' rfl h
    case defer d => rw [Act.put_defers] at h; exact k _ _ w' rfl h
    case enter f args =>
      refine Calls.mono h fun e w'' he => ?_
      cases e with
      | returned v => exact k a v w'' rfl he
      | panicked c => exact absurd he (hQ.1 _ _ _)
      | outgrown => exact he
    case row row args => exact Rows.mono h fun v w'' he => k a v w'' rfl he
  | halt z w' =>
    cases z <;> simp only [Oper.upon] at h ⊢ <;> first | exact h | exact absurd h (hQ.1 _ _ _)
theorem swap {St : List HProp} {x y : Oper} {rest : List Oper} {a : Act} {w : World} (hQ : Calm Q) (hx : noSel x = true) (hy : noSel y = true) (h : swapB P sr ops x y = true) (k : wpK P sr ops Q St (x :: y :: rest) a w) :
    wpK P sr ops Q St (y :: x :: rest) a w := by
  simp only [swapB, Bool.and_eq_true] at h
  obtain ⟨hap, hk⟩ := h
  obtain ⟨h1, h2, h3⟩ := Oper.apart_spec hap
  have h2' : ∀ d, y.dst = some d → x.dst ≠ some d := fun d hd e => h2 d e hd
  have wy : ∀ b u, Act.tmps b = a.tmps → Region.wanted y (yielded ops (b.put x.dst u).tmps) = Region.wanted y (yielded ops a.tmps) := fun b u hb => by rw [wanted_put y b x.dst u h1, hb]
  have wx : ∀ b u, Act.tmps b = a.tmps → Region.wanted x (yielded ops (b.put y.dst u).tmps) = Region.wanted x (yielded ops a.tmps) := fun b u hb => by rw [wanted_put x b y.dst u h3, hb]
  have ey : ∀ b u, Act.tmps b = a.tmps → execOp (Act.put b x.dst u).eval y = execOp a.eval y := fun b u hb => by
    rw [execOp_put y (noSel_spec hy) b x.dst u h1, show b.eval = a.eval from funext (eval_tmps hb)]
  have ex : ∀ b u, Act.tmps b = a.tmps → execOp (Act.put b y.dst u).eval x = execOp a.eval x := fun b u hb => by
    rw [execOp_put x (noSel_spec hx) b y.dst u h3, show b.eval = a.eval from funext (eval_tmps hb)]
  have comm : ∀ (b : Act) u v, (b.put x.dst u).put y.dst v = (b.put y.dst v).put x.dst u := fun b u v => Act.put_comm b u v h2
  have noP : ∀ (z : Option Tmp) (u : Value), ∀ c b w, Q (.panic c) (Act.put b z u) w → Q (.panic c) b w := fun z u c b w hq => absurd hq (hQ.1 _ _ _)
  cases hwx : Region.wanted x (yielded ops a.tmps) with
  | false =>
    -- x is not carried out
    have k1 := wpK_off hwx k
    have fin : ∀ St b v w', Act.tmps b = a.tmps → wpK P sr ops Q St rest ((Act.put b x.dst undef).put y.dst v) w' → wpK P sr ops Q St (x :: rest) (b.put y.dst v) w' := fun St b v w' hb hk => by
      refine step_off (by rw [wx b v hb, hwx]) ?_
      rw [← comm]; exact hk
    cases hwy : Region.wanted y (yielded ops a.tmps) with
    | false => exact step_off hwy (fin _ a undef w rfl (wpK_off (by rw [wy a undef rfl, hwy]) k1))
    | true =>
      rw [wpK, if_pos (by rw [wy a undef rfl, hwy]), ey a undef rfl] at k1
      rw [wpK, if_pos hwy]
      cases e : kind P y.op <;> simp only [e] at k1 ⊢
      · obtain ⟨v, hv, k1⟩ := k1; exact ⟨v, hv, fin _ a v w rfl k1⟩
      · split
        · rename_i hs; rw [if_pos hs] at k1; obtain ⟨v, R, hv, hR, k1⟩ := k1; exact ⟨v, R, hv, hR, fin _ a v w rfl k1⟩
        · rename_i hs; rw [if_neg hs] at k1; obtain ⟨v, hv, k1⟩ := k1; exact ⟨v, hv, fin _ a v w rfl k1⟩
      · exact wp_back (ops := ops) hy x.dst undef hQ h1 k1 (fun b v w' hb hk => ⟨hk.1, fin _ b v w' hb hk.2⟩)
  | true =>
    cases hwy : Region.wanted y (yielded ops a.tmps) with
    | false =>
      -- y is not carried out
      have fin : ∀ St b v w', Act.tmps b = a.tmps → wpK P sr ops Q St (y :: rest) (Act.put b x.dst v) w' → wpK P sr ops Q St rest ((Act.put b y.dst undef).put x.dst v) w' := fun St b v w' hb hk => by
        have := wpK_off (by rw [wy b v hb, hwy]) hk
        rw [comm] at this; exact this
      refine step_off hwy ?_
      rw [wpK, if_pos hwx] at k
      rw [wpK, if_pos (by rw [wx a undef rfl, hwx]), ex a undef rfl]
      cases e : kind P x.op <;> simp only [e] at k ⊢
      · obtain ⟨v, hv, k⟩ := k; exact ⟨v, hv, fin _ a v w rfl k⟩
      · split
        · rename_i hs; rw [if_pos hs] at k; obtain ⟨v, R, hv, hR, k⟩ := k; exact ⟨v, R, hv, hR, fin _ a v w rfl k⟩
        · rename_i hs; rw [if_neg hs] at k; obtain ⟨v, hv, k⟩ := k; exact ⟨v, hv, fin _ a v w rfl k⟩
      · exact wp_turn (ex a undef rfl) y.dst undef hQ h2' k (fun b v w' hb hk => ⟨hk.1, fin _ b v w' hb hk.2⟩) rfl
    | true =>
      rw [wpK, if_pos hwx] at k
      rw [wpK, if_pos hwy]
      cases ekx : kind P x.op <;> cases eky : kind P y.op <;> rw [ekx, eky] at hk <;> first | (cases hk; done) | skip
      all_goals simp only [ekx] at k
      all_goals simp only
      -- pure pure
      · obtain ⟨v, hv, k⟩ := k
        rw [wpK, if_pos (by rw [wy a v rfl, hwy])] at k; simp only [eky, ey a v rfl] at k
        obtain ⟨u, hu, k⟩ := k
        refine ⟨u, hu, ?_⟩
        rw [wpK, if_pos (by rw [wx a u rfl, hwx])]; simp only [ekx, ex a u rfl]
        exact ⟨v, hv, by rw [← comm]; exact k⟩
      -- pure read
      · obtain ⟨v, hv, k⟩ := k
        rw [wpK, if_pos (by rw [wy a v rfl, hwy])] at k; simp only [eky, ey a v rfl] at k
        split
        · rename_i hs; rw [if_pos hs] at k
          obtain ⟨u, R, hu, hR, k⟩ := k
          refine ⟨u, R, hu, hR, ?_⟩
          rw [wpK, if_pos (by rw [wx a u rfl, hwx])]; simp only [ekx, ex a u rfl]
          exact ⟨v, hv, by rw [← comm]; exact k⟩
        · rename_i hs; rw [if_neg hs] at k
          obtain ⟨u, hu, k⟩ := k
          refine ⟨u, hu, ?_⟩
          rw [wpK, if_pos (by rw [wx a u rfl, hwx])]; simp only [ekx, ex a u rfl]
          exact ⟨v, hv, by rw [← comm]; exact k⟩
      -- pure eff
      · obtain ⟨v, hv, k⟩ := k
        rw [wpK, if_pos (by rw [wy a v rfl, hwy])] at k; simp only [eky] at k
        refine wp_back (ops := ops) hy x.dst v hQ h1 k (fun b u w' hb hk => ⟨hk.1, ?_⟩)
        rw [wpK, if_pos (by rw [wx b u hb, hwx])]; simp only [ekx, ex b u hb]
        exact ⟨v, hv, by rw [← comm]; exact hk.2⟩
      -- read pure
      · split at k
        · rename_i hs
          obtain ⟨v, R, hv, hR, k⟩ := k
          rw [wpK, if_pos (by rw [wy a v rfl, hwy])] at k; simp only [eky, ey a v rfl] at k
          obtain ⟨u, hu, k⟩ := k
          refine ⟨u, hu, ?_⟩
          rw [wpK, if_pos (by rw [wx a u rfl, hwx])]; simp only [ekx, ex a u rfl, if_pos hs]
          exact ⟨v, R, hv, hR, by rw [← comm]; exact k⟩
        · rename_i hs
          obtain ⟨v, hv, k⟩ := k
          rw [wpK, if_pos (by rw [wy a v rfl, hwy])] at k; simp only [eky, ey a v rfl] at k
          obtain ⟨u, hu, k⟩ := k
          refine ⟨u, hu, ?_⟩
          rw [wpK, if_pos (by rw [wx a u rfl, hwx])]; simp only [ekx, ex a u rfl, if_neg hs]
          exact ⟨v, hv, by rw [← comm]; exact k⟩
      -- read read
      · have ky : ∀ St v, wpK P sr ops Q St (y :: rest) (a.put x.dst v) w →
            (∃ u, (execOp a.eval y).run P w = .ok (.value u) w ∧ ((stb sr y = false ∧ wpK P sr ops Q St rest ((a.put x.dst v).put y.dst u) w) ∨
              ∃ R, stb sr y = true ∧ (∀ w', holds R w' → (execOp a.eval y).run P w' = .ok (.value u) w') ∧ holds R w ∧ wpK P sr ops Q (R :: St) rest ((a.put x.dst v).put y.dst u) w)) := fun St v hk => by
          rw [wpK, if_pos (by rw [wy a v rfl, hwy])] at hk; simp only [eky, ey a v rfl] at hk
          split at hk
          · rename_i hs; obtain ⟨u, R, hu, hR, hk⟩ := hk; exact ⟨u, hu w hR, .inr ⟨R, hs, hu, hR, hk⟩⟩
          · rename_i hs; obtain ⟨u, hu, hk⟩ := hk; exact ⟨u, hu, .inl ⟨by simpa using hs, hk⟩⟩
        split at k
        · rename_i hsx
          obtain ⟨v, R, hv, hR, k⟩ := k
          obtain ⟨u, hu, ⟨hsy, hk⟩ | ⟨R2, hsy, hu2, hR2, hk⟩⟩ := ky _ v k
          · rw [if_neg (by simp [hsy])]
            refine ⟨u, hu, ?_⟩
            rw [wpK, if_pos (by rw [wx a u rfl, hwx])]; simp only [ekx, ex a u rfl, if_pos hsx]
            exact ⟨v, R, hv, hR, by rw [← comm]; exact hk⟩
          · rw [if_pos hsy]
            refine ⟨u, R2, hu2, hR2, ?_⟩
            rw [wpK, if_pos (by rw [wx a u rfl, hwx])]; simp only [ekx, ex a u rfl, if_pos hsx]
            exact ⟨v, R, hv, hR, by rw [← comm]; exact wpK_sub (fun R hR => by simp only [List.mem_cons] at hR ⊢; exact or_left_comm.1 hR) hk⟩
        · rename_i hsx
          obtain ⟨v, hv, k⟩ := k
          obtain ⟨u, hu, ⟨hsy, hk⟩ | ⟨R2, hsy, hu2, hR2, hk⟩⟩ := ky _ v k
          · rw [if_neg (by simp [hsy])]
            refine ⟨u, hu, ?_⟩
            rw [wpK, if_pos (by rw [wx a u rfl, hwx])]; simp only [ekx, ex a u rfl, if_neg hsx]
            exact ⟨v, hv, by rw [← comm]; exact hk⟩
          · rw [if_pos hsy]
            refine ⟨u, R2, hu2, hR2, ?_⟩
            rw [wpK, if_pos (by rw [wx a u rfl, hwx])]; simp only [ekx, ex a u rfl, if_neg hsx]
            exact ⟨v, hv, by rw [← comm]; exact hk⟩
      -- read eff
      · simp only [Bool.and_eq_true, Bool.not_eq_true'] at hk
        obtain ⟨hs, hns⟩ := hk
        rw [if_pos hs] at k
        obtain ⟨v, R, hv, hR, k⟩ := k
        rw [wpK, if_pos (by rw [wy a v rfl, hwy])] at k; simp only [eky] at k
        refine wp_back (ops := ops) hy x.dst v hQ h1 k (fun b u w' hb hk => ⟨fun hn R' h' => hk.1 hn R' (List.mem_cons_of_mem _ h'), ?_⟩)
        rw [wpK, if_pos (by rw [wx b u hb, hwx])]; simp only [ekx, ex b u hb, if_pos hs]
        exact ⟨v, R, hv, hk.1 hns R List.mem_cons_self, by rw [← comm]; exact hk.2⟩
      -- eff pure
      · obtain ⟨b, v, w', ⟨_, hb⟩, hbt⟩ := wp_some hQ k
        rw [wpK, if_pos (by rw [wy b v hbt, hwy])] at hb; simp only [eky, ey b v hbt] at hb
        obtain ⟨u, hu, _⟩ := hb
        refine ⟨u, hu, ?_⟩
        rw [wpK, if_pos (by rw [wx a u rfl, hwx])]; simp only [ekx]
        refine wp_turn (ex a u rfl) y.dst u hQ h2' k (fun b v w' hb hk => ⟨hk.1, ?_⟩) rfl
        have hk2 := hk.2
        rw [wpK, if_pos (by rw [wy b v hb, hwy])] at hk2; simp only [eky, ey b v hb] at hk2
        obtain ⟨u', hu', hk2⟩ := hk2
        have : u' = u := by have h5 := (hu' w').symm.trans (hu w'); simpa using h5
        subst this
        rw [← comm]; exact hk2

theorem wpK_mono {St : List HProp} {o : Oper} {r r' : List Oper} {a : Act} {w : World} (h : ∀ St a w, wpK P sr ops Q St r a w → wpK P sr ops Q St r' a w) (k : wpK P sr ops Q St (o :: r) a w) : wpK P sr ops Q St (o :: r') a w := by
  unfold wpK at k ⊢
  split
  · rename_i hw
    rw [if_pos hw] at k
    split at k
    · obtain ⟨v, hv, k⟩ := k; exact ⟨v, hv, h _ _ _ k⟩
    · split
      · rename_i hb; rw [if_pos hb] at k; obtain ⟨v, R, hv, hR, k⟩ := k; exact ⟨v, R, hv, hR, h _ _ _ k⟩
      · rename_i hb; rw [if_neg hb] at k; obtain ⟨v, hv, k⟩ := k; exact ⟨v, hv, h _ _ _ k⟩
    · exact Oper.wp_mono (fun a w k => ⟨k.1, h _ _ _ k.2⟩) k
  · rename_i hw
    rw [if_neg hw] at k; exact h _ _ _ k
theorem front {y : Oper} (hQ : Calm Q) (hy : noSel y = true) (rest : List Oper) : ∀ (l : List Oper) (St : List HProp) (a : Act) (w : World), (∀ x ∈ l, noSel x = true ∧ swapB P sr ops x y = true) →
    wpK P sr ops Q St (l ++ y :: rest) a w → wpK P sr ops Q St (y :: (l ++ rest)) a w
  | [], _, _, _, _, k => k
  | x :: l, St, a, w, h, k => by
    have hx := h x List.mem_cons_self
    refine swap hQ hx.1 hy hx.2 ?_
    exact wpK_mono (fun St a w => front hQ hy rest l St a w (fun z hz => h z (List.mem_cons_of_mem _ hz))) k

/-! ### an order of one's own, and all others -/
def pick (ops : Array Oper) (s : List Nat) : List Oper := s.filterMap (ops[·]?)
def hangs (y : Oper) (j : Nat) : Bool := y.after.toList.any fun e => Region.binds .any e && e.on == j
def pairB (f : Nat → Nat → Bool) : List Nat → Bool
  | [] => true
  | i :: r => r.all (f i) && pairB f r
theorem pairB_spec {f : Nat → Nat → Bool} : ∀ {l : List Nat}, pairB f l = true → l.Pairwise (fun i j => f i j = true)
  | [], _ => List.Pairwise.nil
  | i :: r, h => by
    simp only [pairB, Bool.and_eq_true, List.all_eq_true] at h
    exact List.pairwise_cons.2 ⟨h.1, pairB_spec h.2⟩
/-- i stands ahead of j in one's own order: i hangs on nothing of j's; and j hangs on i, or the two may stand either way. -/
def mayB (P : Program) (sr : List Tmp) (ops : Array Oper) (T : Array Nat) (i j : Nat) : Bool :=
  (match ops[i]? with | some x => !hangs x j | none => true) && ((T.getD j 0).testBit i || match ops[i]?, ops[j]? with | some x, some y => swapB P sr ops x y | _, _ => true)
/-- The table of what hangs on what says no more than the edges do. -/
def tableB (ops : Array Oper) (T : Array Nat) : Bool :=
  (List.range ops.size).all fun i => match ops[i]? with
    | none => true
    | some y => y.after.toList.all (fun e => !Region.binds .any e || Nat.blt e.on i) && (List.range i).all fun j =>
        !(T.getD i 0).testBit j || y.after.toList.any (fun e => Region.binds .any e && (e.on == j || (Nat.blt j e.on && (T.getD e.on 0).testBit j)))
def calmB (P : Program) (sr : List Tmp) (l : List Oper) (π : List Nat) : Bool :=
  let ops := l.toArray
  let T := Region.before ops
  l.all noSel && tableB ops T && (List.range l.length).all (fun i => π.contains i) && π.all (fun i => Nat.blt i l.length) && pairB (fun i j => i != j && mayB P sr ops T i j) π && (π.all fun j => !(T.getD j 0 >>> l.length != 0) && (List.range l.length).all fun i => Nat.blt i j || !(T.getD j 0).testBit i)
variable {l : List Oper} {π : List Nat}
theorem calm_noSel (h : calmB P sr l π = true) {i : Nat} {y : Oper} (hy : l.toArray[i]? = some y) : noSel y = true := by
  simp only [calmB, Bool.and_eq_true, List.all_eq_true] at h
  exact h.1.1.1.1.1 y (List.mem_of_getElem? (by simpa using hy))
theorem calm_back (h : calmB P sr l π = true) {i : Nat} {y : Oper} (hy : l.toArray[i]? = some y) : ∀ e ∈ y.after, Region.binds .any e = true → e.on < i := by
  simp only [calmB, tableB, Bool.and_eq_true, List.all_eq_true] at h
  have hi : i < l.toArray.size := (Array.getElem?_eq_some_iff.1 hy).1
  have h2 := h.1.1.1.1.2 i (List.mem_range.2 hi)
  rw [hy] at h2
  simp only [Bool.and_eq_true, List.all_eq_true, Bool.or_eq_true, Bool.not_eq_true', Nat.blt_eq] at h2
  exact fun e he hb => (h2.1 e (by simpa using he)).resolve_left (by simp [hb])
theorem calm_table (h : calmB P sr l π = true) {i : Nat} {y : Oper} (hy : l.toArray[i]? = some y) {j : Nat} (hj : j < i) (hT : ((Region.before l.toArray).getD i 0).testBit j = true) :
    ∃ e ∈ y.after, Region.binds .any e = true ∧ (e.on = j ∨ (j < e.on ∧ ((Region.before l.toArray).getD e.on 0).testBit j = true)) := by
  simp only [calmB, tableB, Bool.and_eq_true, List.all_eq_true] at h
  have hi : i < l.toArray.size := (Array.getElem?_eq_some_iff.1 hy).1
  have h2 := h.1.1.1.1.2 i (List.mem_range.2 hi)
  rw [hy] at h2
  simp only [Bool.and_eq_true, List.all_eq_true, Bool.or_eq_true, Bool.not_eq_true', List.any_eq_true, beq_iff_eq, Nat.blt_eq] at h2
  rcases h2.2 j (List.mem_range.2 hj) with h3 | ⟨e, he, hb, hd⟩
  · rw [hT] at h3; cases h3
  · exact ⟨e, by simpa using he, hb, hd⟩
theorem calm_anc (h : calmB P sr l π = true) {listed : Array Bool}
    (hdown : ∀ x ox, l.toArray[x]? = some ox → listed.getD x false = true → ∀ e ∈ ox.after, Region.binds .any e = true → listed.getD e.on false = true) :
    ∀ (i : Nat) (y : Oper), l.toArray[i]? = some y → (∀ e ∈ y.after, Region.binds .any e = true → listed.getD e.on false = true) →
      ∀ j, j < i → ((Region.before l.toArray).getD i 0).testBit j = true → listed.getD j false = true := by
  intro i
  induction i using Nat.strongRecOn with
  | _ i ih =>
    intro y hy hdeps j hj hT
    obtain ⟨e, he, hb, hd⟩ := calm_table h hy hj hT
    have hl := hdeps e he hb
    rcases hd with rfl | ⟨hje, hd⟩
    · exact hl
    · have hlt := calm_back h hy e he hb
      have hi : i < l.toArray.size := (Array.getElem?_eq_some_iff.1 hy).1
      have hsome : l.toArray[e.on]? = some (l.toArray[e.on]'(by omega)) := Array.getElem?_eq_getElem (by omega)
      exact ih e.on hlt _ hsome (hdown e.on _ hsome hl) j hje hd
theorem getD_bit {listed : Array Bool} {i : Nat} (hi : i < listed.size) (d d' : Bool) : listed.getD i d = listed.getD i d' := by
  simp [hi]
abbrev May (P : Program) (sr : List Tmp) (l : List Oper) (i j : Nat) : Prop := (i != j && mayB P sr l.toArray (Region.before l.toArray) i j) = true
theorem wpAny_of (hQ : Calm Q) (hc : calmB P sr l π = true) : ∀ (fuel : Nat) (listed : Array Bool) (s : List Nat) (St : List HProp) (a : Act) (w : World),
    listed.size = l.toArray.size → s.Pairwise (May P sr l) → (∀ i, i ∈ s ↔ i < l.toArray.size ∧ listed.getD i true = false) →
    (∀ x ox, l.toArray[x]? = some ox → listed.getD x false = true → ∀ e ∈ ox.after, Region.binds .any e = true → listed.getD e.on false = true) →
    s.length ≤ fuel → wpK P sr l.toArray Q St (pick l.toArray s) a w → wpAny P .any l.toArray Q fuel listed a w := by
  intro fuel
  have empty : ∀ (listed : Array Bool) (s : List Nat) (St : List HProp) (a : Act) (w : World), listed.size = l.toArray.size → s.Pairwise (May P sr l) → (∀ i, i ∈ s ↔ i < l.toArray.size ∧ listed.getD i true = false) →
      Region.ready .any l.toArray listed = [] → wpK P sr l.toArray Q St (pick l.toArray s) a w → s = [] ∧ Q .normal a w := by
    intro listed s St a w hsz hs hmem hr k
    cases s with
    | nil => exact ⟨rfl, k⟩
    | cons i s =>
      exfalso
      obtain ⟨hi, hl⟩ := (hmem i).1 List.mem_cons_self
      have hsome : l.toArray[i]? = some (l.toArray[i]) := Array.getElem?_eq_getElem hi
      have : i ∈ Region.ready .any l.toArray listed := by
        rw [mem_ready]
        refine ⟨hl, _, hsome, fun e he hb => ?_⟩
        have hlt := calm_back hc hsome e he hb
        have hne : e.on ∉ i :: s := fun h => by
          rcases List.mem_cons.1 h with h | h
          · omega
          · have h5 := (List.pairwise_cons.1 hs).1 _ h
            simp only [Bool.and_eq_true, mayB, hsome] at h5
            have h6 := h5.2.1
            simp only [hangs, Bool.not_eq_true', List.any_eq_false, Bool.and_eq_true, beq_iff_eq, not_and] at h6
            exact h6 e (by simpa using he) hb rfl
        rw [hmem] at hne
        have h5 : ¬ listed.getD e.on true = false := fun h => hne ⟨by omega, h⟩
        rw [getD_bit (by omega) false true]
        simpa using h5
      rw [hr] at this; cases this
  induction fuel with
  | zero =>
    intro listed s St a w hsz hs hmem _ hlen k
    have : s = [] := List.eq_nil_of_length_eq_zero (by omega)
    subst this
    refine ⟨?_, k⟩
    cases hr : Region.ready .any l.toArray listed with
    | nil => rfl
    | cons i r =>
      exfalso
      have hi : i ∈ Region.ready .any l.toArray listed := by rw [hr]; exact List.mem_cons_self
      obtain ⟨h0, o, ho, _⟩ := mem_ready.1 hi
      have := (hmem i).2 ⟨(Array.getElem?_eq_some_iff.1 ho).1, h0⟩
      cases this
  | succ fuel ih =>
    intro listed s St a w hsz hs hmem hdown hlen k
    refine ⟨fun hr => (empty listed s St a w hsz hs hmem hr k).2, fun i hi => ?_⟩
    obtain ⟨h0, y, hy, hdeps⟩ := mem_ready.1 hi
    have hisz : i < l.toArray.size := (Array.getElem?_eq_some_iff.1 hy).1
    have his : i ∈ s := (hmem i).2 ⟨hisz, h0⟩
    obtain ⟨s1, s2, rfl⟩ := List.append_of_mem his
    rw [List.pairwise_append] at hs
    obtain ⟨hs1, hs2, hs12⟩ := hs
    have hpick : pick l.toArray (s1 ++ i :: s2) = pick l.toArray s1 ++ y :: pick l.toArray s2 := by
      simp only [pick, List.filterMap_append, List.filterMap_cons, hy]
    rw [hpick] at k
    have k2 := front hQ (calm_noSel hc hy) (pick l.toArray s2) (pick l.toArray s1) St a w (fun x hx => by
      obtain ⟨j, hj, hx⟩ := List.mem_filterMap.1 hx
      refine ⟨calm_noSel hc hx, ?_⟩
      have hm := hs12 j hj i List.mem_cons_self
      simp only [Bool.and_eq_true, mayB, hx, hy, Bool.or_eq_true] at hm
      rcases hm.2.2 with hT | hsw
      · exfalso
        have hji : j < i := by
          simp only [calmB, Bool.and_eq_true, List.all_eq_true] at hc
          have h8 := hc.2 i (List.contains_iff_mem.1 (hc.1.1.1.2 i (List.mem_range.2 (by simpa using hisz))))
          have h9 := h8.2 j (List.mem_range.2 (by have := (Array.getElem?_eq_some_iff.1 hx).1; simpa using this))
          simp only [hT, Bool.not_true, Bool.or_false, Nat.blt_eq] at h9
          exact h9
        have h6 := calm_anc hc hdown i y hy hdeps j hji hT
        have h7 := ((hmem j).1 (List.mem_append_left _ hj))
        rw [getD_bit (by omega) false true, h7.2] at h6
        cases h6
      · exact hsw) k
    have hap : pick l.toArray s1 ++ pick l.toArray s2 = pick l.toArray (s1 ++ s2) := by simp [pick]
    rw [hap] at k2
    have hget : ∀ j d, (listed.setIfInBounds i true).getD j d = if j = i then true else listed.getD j d := fun j d => by
      split
      · subst j; have hli : i < listed.size := by omega
        simp [hli]
      · rename_i hne; exact getD_set_ne d (fun e => hne e.symm)
    have step : ∀ St a w, wpK P sr l.toArray Q St (pick l.toArray (s1 ++ s2)) a w → wpAny P .any l.toArray Q fuel (listed.setIfInBounds i true) a w := fun St a w k => by
      refine ih _ (s1 ++ s2) St a w (by simp [hsz]) ?_ ?_ ?_ ?_ k
      · rw [List.pairwise_append]
        exact ⟨hs1, (List.pairwise_cons.1 hs2).2, fun p hp q hq => hs12 p hp q (List.mem_cons_of_mem _ hq)⟩
      · intro j
        rw [hget]
        have hj := hmem j
        simp only [List.mem_append, List.mem_cons] at hj ⊢
        split
        · rename_i e; subst j
          refine ⟨fun h => ?_, fun h => by simp at h⟩
          rcases h with h | h
          · have := hs12 _ h _ List.mem_cons_self; simp at this
          · have := (List.pairwise_cons.1 hs2).1 _ h; simp at this
        · rename_i hne
          simp only [hne, false_or] at hj
          exact hj
      · intro x ox hx hl e he hb
        rw [hget] at hl ⊢
        split
        · rfl
        · split at hl
          · rename_i e2; subst x
            rw [hy] at hx; cases hx
            exact hdeps e he hb
          · exact hdown x ox hx hl e he hb
      · simp only [List.length_append, List.length_cons] at hlen ⊢; omega
    unfold wpOp
    simp only [hy]
    cases hw : Region.wanted y (yielded l.toArray a.tmps) with
    | true => simp only [if_true]; exact .inl (Oper.wp_mono (fun a w ⟨St, h⟩ => step St a w h) (wpK_wp hw k2))
    | false => simp only [Bool.false_eq_true, if_false]; exact step _ _ _ (wpK_off hw k2)
theorem calm_len (hc : calmB P sr l π = true) : π.length = l.length := by
  simp only [calmB, Bool.and_eq_true, List.all_eq_true] at hc
  have hp := pairB_spec hc.1.2
  have hnd : π.Nodup := hp.imp (fun h => by simp only [Bool.and_eq_true, bne_iff_ne] at h; exact h.1)
  have h1 : π.Perm (List.range l.length) := by
    refine (List.perm_ext_iff_of_nodup hnd List.nodup_range).2 fun i => ⟨fun h => ?_, fun h => List.contains_iff_mem.1 (hc.1.1.1.2 i h)⟩
    have := hc.1.1.2 i h
    simpa [Nat.blt_eq] using this
  simpa using h1.length_eq
theorem pick_all (l : List Oper) : pick l.toArray (List.range l.length) = l := by
  have key : ∀ (m p : List Oper), (List.range' p.length m.length).filterMap (fun i => (p ++ m)[i]?) = m := by
    intro m
    induction m with
    | nil => intro p; rfl
    | cons x m ih =>
      intro p
      simp only [List.length_cons, List.range'_succ, List.filterMap_cons]
      have h1 : (p ++ x :: m)[p.length]? = some x := by simp
      rw [h1]
      simp only
      have := ih (p ++ [x])
      simp only [List.length_append, List.length_singleton, List.append_assoc, List.singleton_append] at this
      rw [this]
  have := key l []
  simp only [List.length_nil, List.nil_append] at this
  rw [pick, List.range_eq_range']
  simp only [List.getElem?_toArray]
  rw [this]
theorem wp_region_calm {id : Nat} {a : Act} {w : World} (hm : P.follows .mixedOrders = true) (hQ : Calm Q) (hc : calmB P sr l π = true)
    (h : wpK P sr l.toArray Q [] (pick l.toArray π) a { w with drawn := w.drawn + 1 }) : (Code.region id l.toArray true).wp P Q a w := by
  have hlen := calm_len hc
  have hc2 := hc
  simp only [calmB, Bool.and_eq_true, List.all_eq_true] at hc2
  refine wp_region_any hm (wpAny_of hQ hc _ _ π [] a _ (by simp) (pairB_spec hc2.1.2) (fun i => ?_) (fun x ox hx hl => ?_) (by simp [hlen]) h)
  · simp only [List.size_toArray]
    refine ⟨fun h => ?_, fun h => List.contains_iff_mem.1 (hc2.1.1.1.2 i (List.mem_range.2 h.1))⟩
    have hi : i < l.length := by have := hc2.1.1.2 i h; simpa [Nat.blt_eq] using this
    exact ⟨hi, by simp [hi]⟩
  · exfalso
    have : x < l.length := by have := (Array.getElem?_eq_some_iff.1 hx).1; simpa using this
    simp [this] at hl
end
end Go.SL
