/-
  Rules of a small separation logic for the model's operations, kind by kind.
-/
import Derived.Test.YtlibnpdbcjgegaaGreatSLRules
import Derived.Laws.BytesString
namespace Go.SL

/-! ### What the program says of its types -/
class FieldOff (P : Program) (s f : Nat) (off : outParam Nat) : Prop where
  run : ∀ a w, (Instr.fieldAt s (.pointer (some a)) f).run P w = .ok (.pointer (some (a.add off))) w
def fieldOffB (P : Program) (s f : Nat) : Option Nat :=
  match P.underlying s with
  | some (.struct fs) => match fs[f]? with
    | some fl => match P.info? fl.type with
      | some i => if i.size = 0 then none else some fl.offset
      | none => none
    | none => none
  | _ => none
theorem FieldOff.of {P : Program} {s f off : Nat} (h : fieldOffB P s f = some off) : FieldOff P s f off := by
  refine ⟨fun a w => ?_⟩
  unfold fieldOffB at h
  split at h
  · rename_i fs hs
    split at h
    · rename_i fl hf
      split at h
      · rename_i i hi
        split at h
        · cases h
        · rename_i hz
          simp only [Option.some.injEq] at h
          subst h
          simp [Instr.fieldAt, run_underlying hs, hf, Instr.sureAddr, fieldPlace, sizeOf, typeInfo, hi, hz]
      · cases h
    · cases h
  · cases h
/-- A type whose values are one cell. -/
class One (P : Program) (t : TypeId) : Prop where
  agg : ∀ w, (isAgg t).run P w = .ok false w
  size : ∀ w, (sizeOf t).run P w = .ok 1 w
def oneB (P : Program) (t : TypeId) : Bool :=
  (match P.underlying t with | some (.struct _) | some (.array ..) | none => false | some _ => true) && (match P.info? t with | some i => i.size == 1 | none => false)
theorem One.of {P : Program} {t : TypeId} (h : oneB P t = true) : One P t := by
  simp only [oneB, Bool.and_eq_true] at h
  obtain ⟨h1, h2⟩ := h
  constructor
  · intro w
    unfold isAgg
    cases hu : P.underlying t with
    | none => rw [hu] at h1; cases h1
    | some d => rw [hu] at h1; simp only [Sem.run_bind, run_underlying hu, Result.andThen_ok]; cases d <;> first | rfl | cases h1
  · intro w
    cases hi : P.info? t with
    | none => rw [hi] at h2; cases h2
    | some i => rw [hi] at h2; simp only [beq_iff_eq] at h2; simp [sizeOf, typeInfo, hi, h2]
/-- A type whose values are aggregates of n cells. -/
class AggTy (P : Program) (t : TypeId) (n : outParam Nat) : Prop where
  agg : ∀ w, (isAgg t).run P w = .ok true w
  size : ∀ w, (sizeOf t).run P w = .ok n w
def aggB (P : Program) (t : TypeId) : Option Nat :=
  match P.underlying t with
  | some (.struct _) | some (.array ..) => (P.info? t).map (·.size)
  | _ => none
theorem AggTy.of {P : Program} {t n : TypeId} (h : aggB P t = some n) : AggTy P t n := by
  unfold aggB at h
  constructor
  · intro w
    unfold isAgg
    cases hu : P.underlying t with
    | none => rw [hu] at h; cases h
    | some d => rw [hu] at h; simp only [Sem.run_bind, run_underlying hu, Result.andThen_ok]; cases d <;> first | rfl | cases h
  · intro w
    have : (P.info? t).map (·.size) = some n := by
      cases hu : P.underlying t with
      | none => rw [hu] at h; cases h
      | some d => rw [hu] at h; cases d <;> first | exact h | cases h
    cases hi : P.info? t with
    | none => rw [hi] at this; cases this
    | some i => rw [hi] at this; simp only [Option.map_some, Option.some.injEq] at this; simp [sizeOf, typeInfo, hi, this]
class Zero (P : Program) (t : TypeId) (v : outParam Value) : Prop where
  run : ∀ w, (zeroValue t).run P w = .ok v w
theorem Zero.of {P : Program} {t : TypeId} {v : Value} (h : (P.info? t).bind (·.zero) = some v) : Zero P t v := by
  refine ⟨fun w => ?_⟩
  cases hi : P.info? t with
  | none => rw [hi] at h; cases h
  | some i => rw [hi] at h; simp only [Option.bind_some] at h; simp [zeroValue, typeInfo, hi, h]
/-- t is a slice of e, whose values have sz cells and by bytes. -/
class SliceTy (P : Program) (t : TypeId) (e sz bytes : outParam Nat) : Prop where
  und : P.underlying t = some (.slice e)
  info : ∃ i z, P.info? e = some i ∧ i.size = sz ∧ i.bytes = bytes ∧ i.zero = some z ∧ z.cells.size = sz
  pos : 0 < sz
def sliceB (P : Program) (t : TypeId) : Option (Nat × Nat × Nat) :=
  match P.underlying t with
  | some (.slice e) => match P.info? e with
    | some i => match i.zero with
      | some z => if z.cells.size = i.size ∧ 0 < i.size then some (e, i.size, i.bytes) else none
      | none => none
    | none => none
  | _ => none
theorem SliceTy.of {P : Program} {t e sz bytes : Nat} (h : sliceB P t = some (e, sz, bytes)) : SliceTy P t e sz bytes := by
  unfold sliceB at h
  split at h
  · rename_i e' hu
    split at h
    · rename_i i hi
      split at h
      · rename_i z hz
        split at h
        · rename_i hc
          simp only [Option.some.injEq, Prod.mk.injEq] at h
          obtain ⟨rfl, rfl, rfl⟩ := h
          exact ⟨hu, ⟨i, z, hi, rfl, rfl, hz, hc.1⟩, hc.2⟩
        · cases h
      · cases h
    · cases h
  · cases h
class Callable (P : Program) (f : FuncId) : Prop where
  run : ∀ args w, (callFunc f args).run P w = .ok (.enter f args) w
def callableB (P : Program) (f : FuncId) : Bool := match P.funcs[f]? with | some fn => fn.name != "runtime.NumGoroutine" && fn.body.isSome | none => false
theorem Callable.of {P : Program} {f : FuncId} (h : callableB P f = true) : Callable P f := by
  refine ⟨fun args w => ?_⟩
  unfold callableB at h
  split at h
  · rename_i fn hf
    simp only [Bool.and_eq_true, bne_iff_ne, Option.isSome_iff_ne_none] at h
    simp [callFunc, hf, h.1, h.2]
  · cases h
class StrTy (P : Program) (t : TypeId) : Prop where
  und : P.underlying t = some .string
class IntTy (P : Program) (t : TypeId) (k : outParam IntKind) : Prop where
  und : P.underlying t = some (.int k)

section
variable {P : Program} {n : Nat} {o : Outer} {sr : List Tmp} {ops : Array Oper} {Q : Post} {St : List HProp} {rest : List Oper} {xs : Env} {hs : List HProp}
variable {d : Option Tmp} {ty : TypeId} {pos : String} {af : Array Edge}

theorem W.move {x : Operand} {v : Value} (hx : ev xs x = some v) (hd : fits n d = true) (k : W P n o sr ops Q St rest (put d v xs) hs) : W P n o sr ops Q St (⟨d, .move x, ty, pos, af, none⟩ :: rest) xs hs :=
  W.val rfl (by simp only [kind]; first | (intro h; cases h; done) | (repeat' split) <;> (intro h; cases h)) hd (fun a w ha => by simp [execOp, ha.ev hx]) k
theorem W.assign {x : Operand} {v : Value} (hx : ev xs x = some v) (hd : fits n d = true) (k : W P n o sr ops Q St rest (put d v xs) hs) : W P n o sr ops Q St (⟨d, .assign x, ty, pos, af, none⟩ :: rest) xs hs :=
  W.val rfl (by simp only [kind]; first | (intro h; cases h; done) | (repeat' split) <;> (intro h; cases h)) hd (fun a w ha => by simp [execOp, ha.ev hx]) k
theorem W.pick_true {c x y : Operand} {v : Value} (hc : ev xs c = some (.bool true)) (hx : ev xs x = some v) (hd : fits n d = true) (k : W P n o sr ops Q St rest (put d v xs) hs) :
    W P n o sr ops Q St (⟨d, .pick c x y, ty, pos, af, none⟩ :: rest) xs hs :=
  W.val rfl (by simp only [kind]; first | (intro h; cases h; done) | (repeat' split) <;> (intro h; cases h)) hd (fun a w ha => by simp [execOp, ha.ev hc, ha.ev hx, asBool]) k
theorem W.pick_false {c x y : Operand} {v : Value} (hc : ev xs c = some (.bool false)) (hx : ev xs y = some v) (hd : fits n d = true) (k : W P n o sr ops Q St rest (put d v xs) hs) :
    W P n o sr ops Q St (⟨d, .pick c x y, ty, pos, af, none⟩ :: rest) xs hs :=
  W.val rfl (by simp only [kind]; first | (intro h; cases h; done) | (repeat' split) <;> (intro h; cases h)) hd (fun a w ha => by simp [execOp, ha.ev hc, ha.ev hx, asBool]) k
theorem W.nilCheck {x : Operand} {p : Addr} (hx : ev xs x = some (.pointer (some p))) (hd : fits n d = true) (k : W P n o sr ops Q St rest (put d (.pointer (some p)) xs) hs) :
    W P n o sr ops Q St (⟨d, .nilCheck x, ty, pos, af, none⟩ :: rest) xs hs :=
  W.val rfl (by simp only [kind]; first | (intro h; cases h; done) | (repeat' split) <;> (intro h; cases h)) hd (fun a w ha => by simp [execOp, ha.ev hx]) k
theorem add_off (b i k : Nat) : (⟨b, i, none⟩ : Addr).add k = ⟨b, i + k, none⟩ := by
  unfold Addr.add; split <;> simp_all
theorem W.field {s f off b i j : Nat} {x : Operand} [hf : FieldOff P s f off] (hx : ev xs x = some (.pointer (some ⟨b, i, none⟩))) (hj : i + off = j) (hd : fits n d = true)
    (k : W P n o sr ops Q St rest (put d (.pointer (some ⟨b, j, none⟩)) xs) hs) : W P n o sr ops Q St (⟨d, .fieldAddr s x f, ty, pos, af, none⟩ :: rest) xs hs :=
  W.val rfl (by simp only [kind]; first | (intro h; cases h; done) | (repeat' split) <;> (intro h; cases h)) hd (fun a w ha => by
    show ((Instr.fieldAt s (a.eval x) f) >>= fun v => pure (Next.value v)).run P w = _
    rw [ha.ev hx, Sem.run_bind, hf.run, add_off, hj]; rfl) k
/-- A cell read by whatever assertion holds it. -/
theorem W.load_of {t b i : Nat} {x : Operand} {v : Value} [h1 : One P t] (hx : ev xs x = some (.pointer (some ⟨b, i, none⟩))) (hc : ∀ w, Sat o w hs → w.cell? ⟨b, i, none⟩ = some v) (hns : stbD sr d = false) (hd : fits n d = true)
    (k : W P n o sr ops Q St rest (put d v xs) hs) : W P n o sr ops Q St (⟨d, .load t x, ty, pos, af, none⟩ :: rest) xs hs :=
  W.read rfl (by simp [kind]) hns hd (fun a w ha hw => by
    show ((Instr.loadAt t (a.eval x)) >>= fun v => pure (Next.value v)).run P w = _
    rw [ha.ev hx, Sem.run_bind]
    simp [Instr.loadAt, Instr.sureAddr, loadVar, h1.agg, hc w hw]) k
theorem W.load {t b i T : Nat} {x : Operand} {v : Value} {cs : List Value} {r : List HProp} [h1 : One P t] (hx : ev xs x = some (.pointer (some ⟨b, i, none⟩))) (hf : Find hs (blk b T cs) r) (hv : cs[i]? = some v)
    (hns : stbD sr d = false) (hd : fits n d = true) (k : W P n o sr ops Q St rest (put d v xs) hs) : W P n o sr ops Q St (⟨d, .load t x, ty, pos, af, none⟩ :: rest) xs hs :=
  W.load_of hx (fun _ hw => (hw.lift hf.lift).blk_cell hv) hns hd k
/-- A load that must stay what it is. -/
theorem W.stay_of {t b i : Nat} {x : Operand} {v : Value} {R : HProp} {r : List HProp} [h1 : One P t] (hx : ev xs x = some (.pointer (some ⟨b, i, none⟩))) (hf : Find hs R r) (hc : ∀ w, SL.holds R w → w.cell? ⟨b, i, none⟩ = some v)
    (hns : stbD sr d = true) (hd : fits n d = true) (k : W P n o sr ops Q (R :: St) rest (put d v xs) hs) : W P n o sr ops Q St (⟨d, .load t x, ty, pos, af, none⟩ :: rest) xs hs :=
  W.stay rfl (by simp [kind]) hns hd hf (fun a w ha hw => by
    show ((Instr.loadAt t (a.eval x)) >>= fun v => pure (Next.value v)).run P w = _
    rw [ha.ev hx, Sem.run_bind]
    simp [Instr.loadAt, Instr.sureAddr, loadVar, h1.agg, hc w hw]) k
theorem W.load_stay {t b i T : Nat} {x : Operand} {v : Value} {cs : List Value} {r : List HProp} [h1 : One P t] (hx : ev xs x = some (.pointer (some ⟨b, i, none⟩))) (hf : Find hs (blk b T cs) r) (hv : cs[i]? = some v)
    (hns : stbD sr d = true) (hd : fits n d = true) (k : W P n o sr ops Q (blk b T cs :: St) rest (put d v xs) hs) : W P n o sr ops Q St (⟨d, .load t x, ty, pos, af, none⟩ :: rest) xs hs :=
  W.stay_of hx hf (fun w hw => by
    obtain ⟨f, ⟨fr, _, rfl⟩, hf⟩ := hw
    have hb := hf b _ (one_self _ _)
    simp [World.cell?, hb, hv]) hns hd k
inductive SetAt : List Value → Nat → Value → List Value → Prop
  | here {x v : Value} {r : List Value} : SetAt (x :: r) 0 v (v :: r)
  | there {x v : Value} {i : Nat} {r r' : List Value} : SetAt r i v r' → SetAt (x :: r) (i + 1) v (x :: r')
theorem SetAt.eq {cs cs' : List Value} {i : Nat} {v : Value} (h : SetAt cs i v cs') : cs.set i v = cs' ∧ i < cs.length := by
  induction h with
  | here => exact ⟨rfl, by simp⟩
  | there _ ih => exact ⟨by rw [List.set_cons_succ, ih.1], by simp; exact ih.2⟩
theorem W.store {t b i T : Nat} {x y : Operand} {v : Value} {cs : List Value} {r : List HProp} [h1 : One P t] (hx : ev xs x = some (.pointer (some ⟨b, i, none⟩))) (hy : ev xs y = some v) (h0 : v.oneCell' = true)
    (hf : Find hs (blk b T cs) r) {cs' : List Value} (hi : SetAt cs i v cs') (hI : Keep (freeSt sr ops ⟨none, .store t x y, ty, pos, af, none⟩) St (blk b T cs' :: r)) (k : W P n o sr ops Q St rest xs (blk b T cs' :: r)) :
    W P n o sr ops Q St (⟨none, .store t x y, ty, pos, af, none⟩ :: rest) xs hs :=
  W.op_skip rfl rfl rfl fun a w ha hw => by
    have hw' := hw.lift hf.lift
    obtain ⟨rfl, hlt⟩ := hi.eq
    have hcell := hw'.blk_cell (List.getElem?_eq_getElem hlt)
    refine ⟨w.setCell ⟨b, i, none⟩ v, _, ?_, hw'.store i v, hI, k⟩
    show ((Instr.storeAt t (a.eval x) (a.eval y)) >>= fun _ => pure Next.skip).run P w = _
    have hcs : v.cells = #[v] := by cases v <;> first | rfl | cases h0
    rw [ha.ev hx, ha.ev hy, Sem.run_bind]
    simp [Instr.storeAt, Instr.sureAddr, storeVar, h1.size, hcs, storeCells, run_store, h0, hcell, hw'.blk_thawed hlt, Addr.add]
theorem W.alloc {t : Nat} {z : Value} [hz : Zero P t z] (hd : fits n d = true) (hI : Incl St hs) (k : ∀ b, W P n o sr ops Q St rest (put d (.pointer (some ⟨b, 0, none⟩)) xs) (blk b t z.cells.toList :: hs)) :
    W P n o sr ops Q St (⟨d, .alloc t, ty, pos, af, none⟩ :: rest) xs hs :=
  W.op rfl rfl hd fun a w ha hw => ⟨_, _, _, by
    show ((Instr.alloc t true (.tuple #[])) >>= fun v => pure (Next.value v)).run P w = _
    rw [Sem.run_bind]; simp [Instr.alloc, hz.run, newVar, newRow]; exact ⟨rfl, rfl⟩, by have := hw.alloc t z.cells.toList; rw [Array.toArray_toList] at this; exact this, hI.there, k _⟩
theorem W.box {t : Nat} {x : Operand} {v : Value} (hx : ev xs x = some v) (hd : fits n d = true) (hI : Incl St hs) (k : ∀ b, W P n o sr ops Q St rest (put d (.pointer (some ⟨b, 0, none⟩)) xs) (blk b t v.cells.toList :: hs)) :
    W P n o sr ops Q St (⟨d, .box t x, ty, pos, af, none⟩ :: rest) xs hs :=
  W.op rfl rfl hd fun a w ha hw => ⟨_, _, _, by
    show ((Instr.box t (a.eval x)) >>= fun v => pure (Next.value v)).run P w = _
    rw [Sem.run_bind, ha.ev hx]; simp [Instr.box, newVar, newRow]; exact ⟨rfl, rfl⟩, by have := hw.alloc t v.cells.toList; rw [Array.toArray_toList] at this; exact this, hI.there, k _⟩

/-! calls of the program's own functions -/
theorem W.callo {f : FuncId} {args : List Value} {xargs : Array Operand} {ats : Array TypeId} {Pre Rs : List HProp} {q : Value → List HProp → Prop}
    [hc : Callable P f] (hs0 : Trip P f args Pre q) (hargs : xargs.toList.map (ev xs) = args.map some) (he : Ent hs Pre Rs) (hd : fits n d = true) (hI : freeSt sr ops ⟨d, .call { callee := .value (.func f), args := xargs, argTypes := ats }, ty, pos, af, none⟩ = true ∨ Incl St Rs)
    (k : ∀ v Ps, q v Ps → W P n o sr ops Q St rest (put d v xs) (Ps ++ Rs)) :
    W P n o sr ops Q St (⟨d, .call { callee := .value (.func f), args := xargs, argTypes := ats }, ty, pos, af, none⟩ :: rest) xs hs := by
  constructor; intro a w ha hw
  have hargs' : xargs.map a.eval = args.toArray := by
    have : ∀ (l : List Operand) (vs : List Value), l.map (ev xs) = vs.map some → l.map a.eval = vs := by
      intro l
      induction l with
      | nil => intro vs h; cases vs with
        | nil => rfl
        | cons => cases h
      | cons x l ih => intro vs h; cases vs with
        | nil => cases h
        | cons v vs =>
          simp only [List.map_cons, List.cons.injEq] at h ⊢
          exact ⟨ha.ev h.1, ih vs h.2⟩
    have h2 := this xargs.toList args hargs
    apply Array.toList_inj.1
    simpa using h2
  rw [wpK, if_pos (by simp [Region.wanted])]
  show Oper.wp P _ a w (fun a w => (freeSt sr ops _ = false → ∀ R ∈ St, SL.holds R w) ∧ wpK P sr ops Q St rest a w) Q
  have hr : (execOp a.eval ⟨d, .call { callee := .value (.func f), args := xargs, argTypes := ats }, ty, pos, af, none⟩).run P w = .ok (.enter f args.toArray) w := by
    simp [execOp, resolve, Act.eval, Deferred.ofValue, invoke, hc.run, hargs']
  simp only [Oper.wp, hr, Oper.upon_enter]
  refine (hs0.run o w Rs (hw.lift he.lift)).mono ?_
  rintro e w' ⟨v, Ps, rfl, hq, hw'⟩
  refine ⟨fun hn => ?_, k v Ps hq _ _ (ha.put hd v) hw'⟩
  rcases hI with h | h
  · rw [h] at hn; cases hn
  · exact (h.app (Ps := Ps)).holds hw'
theorem W.call {f : FuncId} {args : List Value} {xargs : Array Operand} {ats : Array TypeId} {Pre Rs : List HProp} {q : Value → List HProp → Prop}
    [hc : Callable P f] (hs0 : Trip P f args Pre q) (hargs : xargs.toList.map (ev xs) = args.map some) (he : Ent hs Pre Rs) (hd : fits n d = true) (hI : Incl St Rs)
    (k : ∀ v Ps, q v Ps → W P n o sr ops Q St rest (put d v xs) (Ps ++ Rs)) :
    W P n o sr ops Q St (⟨d, .call { callee := .value (.func f), args := xargs, argTypes := ats }, ty, pos, af, none⟩ :: rest) xs hs := W.callo hs0 hargs he hd (.inr hI) k
end
end Go.SL
