/-
  Rules of a small separation logic for walks: interface values, their methods, the library's functions that the model answers itself.
-/
import Derived.Test.YtlibnpdbcjgegaaGreatSLMake
import Derived.LaidEql
import Derived.Stop.Asserts
import Derived.Laws.Externs
namespace Go.SL
set_option linter.unusedVariables false

class MethodIs (P : Program) (t : TypeId) (name : String) (f : outParam FuncId) : Prop where
  run : ∀ v w, (Go.method (P.types.size + Made.depth) t v name).run P w = .ok (f, v) w
class IfaceTy (P : Program) (t : TypeId) : Prop where
  und : ∃ ms, P.underlying t = some (.interface ms)
def ifaceB (P : Program) (t : TypeId) : Bool := match P.underlying t with | some (.interface _) => true | _ => false
theorem IfaceTy.of {P : Program} {t : TypeId} (h : ifaceB P t = true) : IfaceTy P t := by
  unfold ifaceB at h
  split at h
  · exact ⟨_, by assumption⟩
  · cases h
class NotIface (P : Program) (t : TypeId) : Prop where
  run : ∀ v w, (Instr.makeInterface t v).run P w = .ok (.iface t v) w

theorem evs {xs : Env} {n : Nat} {a : Act} (ha : Ok n xs a) : ∀ (l : List Operand) (vs : List Value), l.map (ev xs) = vs.map some → l.map a.eval = vs := by
  intro l
  induction l with
  | nil => intro vs h; cases vs with
    | nil => rfl
    | cons => cases h
  | cons x l ih => intro vs h; cases vs with
    | nil => cases h
    | cons v vs =>
      simp only [List.map_cons, List.cons.injEq] at h ⊢
      exact ⟨ha.ev h.1, ih vs h.2⟩
section
variable {P : Program} {n : Nat} {o : Outer} {sr : List Tmp} {ops : Array Oper} {Q : Post} {St : List HProp} {rest : List Oper} {xs : Env} {hs : List HProp}
variable {d : Option Tmp} {ty : TypeId} {pos : String} {af : Array Edge}

theorem W.makeIface {t : TypeId} {x : Operand} {v : Value} [hn : NotIface P t] (hx : ev xs x = some v) (hd : fits n d = true) (k : W P n o sr ops Q St rest (put d (.iface t v) xs) hs) :
    W P n o sr ops Q St (⟨d, .makeInterface t x, ty, pos, af, none⟩ :: rest) xs hs :=
  W.val rfl (by simp [kind]) hd (fun a w ha => by
    show ((Instr.makeInterface t (a.eval x)) >>= fun v => pure (Next.value v)).run P w = _
    rw [ha.ev hx, Sem.run_bind, hn.run]; rfl) k
theorem W.assert {x : Operand} {v u : Value} {xT aT : TypeId} {ok : Bool} (hx : ev xs x = some v) (h : ∀ w, (Instr.typeAssert v xT aT ok).run P w = .ok u w) (hd : fits n d = true) (k : W P n o sr ops Q St rest (put d u xs) hs) :
    W P n o sr ops Q St (⟨d, .typeAssert x xT aT ok, ty, pos, af, none⟩ :: rest) xs hs :=
  W.val rfl (by simp [kind]) hd (fun a w ha => by
    show ((Instr.typeAssert (a.eval x) xT aT ok) >>= fun v => pure (Next.value v)).run P w = _
    rw [ha.ev hx, Sem.run_bind, h]; rfl) k
/-- A function that the model answers itself, without a look at the memory. -/
theorem W.ext {f : FuncId} {args : List Value} {xargs : Array Operand} {ats : Array TypeId} {u : Value} (hargs : xargs.toList.map (ev xs) = args.map some) (h : ∀ w, (callFunc f args.toArray).run P w = .ok (.value u) w) (hd : fits n d = true) (hI : Incl St hs)
    (k : W P n o sr ops Q St rest (put d u xs) hs) : W P n o sr ops Q St (⟨d, .call { callee := .value (.func f), args := xargs, argTypes := ats }, ty, pos, af, none⟩ :: rest) xs hs :=
  W.op rfl rfl hd fun a w ha hw => by
    have hargs' : xargs.map a.eval = args.toArray := by
      have h2 := evs ha xargs.toList args hargs
      apply Array.toList_inj.1
      simpa using h2
    refine ⟨u, w, hs, ?_, hw, hI, k⟩
    simp [execOp, resolve, Act.eval, Deferred.ofValue, invoke, h, hargs']
/-- A method of an interface value that the model answers itself. -/
theorem W.invoke_ext {t : TypeId} {name : String} {f : FuncId} {recv : Operand} {v u : Value} {args : List Value} {xargs : Array Operand} {ats : Array TypeId} [hm : MethodIs P t name f] (hr : ev xs recv = some (.iface t v))
    (hargs : xargs.toList.map (ev xs) = args.map some) (h : ∀ w, (callFunc f (v :: args).toArray).run P w = .ok (.value u) w) (hd : fits n d = true) (hI : Incl St hs)
    (k : W P n o sr ops Q St rest (put d u xs) hs) : W P n o sr ops Q St (⟨d, .call { callee := .invoke recv name, args := xargs, argTypes := ats }, ty, pos, af, none⟩ :: rest) xs hs :=
  W.op rfl rfl hd fun a w ha hw => by
    have hargs' : xargs.map a.eval = args.toArray := by
      have h2 := evs ha xargs.toList args hargs
      apply Array.toList_inj.1
      simpa using h2
    refine ⟨u, w, hs, ?_, hw, hI, k⟩
    simp only [execOp, resolve, ha.ev hr, hargs', Sem.run_bind, Sem.run_pure, Result.andThen_ok, Go.invoke]
    simp [callMethod, hm.run, h]
/-- A method of an interface value. -/
theorem W.invoke {t : TypeId} {name : String} {f : FuncId} {recv : Operand} {v : Value} {args : List Value} {xargs : Array Operand} {ats : Array TypeId} {Pre Rs : List HProp} {q : Value → List HProp → Prop} [hm : MethodIs P t name f] [hc : Callable P f]
    (hs0 : Trip P f (v :: args) Pre q) (hr : ev xs recv = some (.iface t v)) (hargs : xargs.toList.map (ev xs) = args.map some) (he : Ent hs Pre Rs) (hd : fits n d = true) (hI : Incl St Rs)
    (k : ∀ v Ps, q v Ps → W P n o sr ops Q St rest (put d v xs) (Ps ++ Rs)) :
    W P n o sr ops Q St (⟨d, .call { callee := .invoke recv name, args := xargs, argTypes := ats }, ty, pos, af, none⟩ :: rest) xs hs := by
  constructor; intro a w ha hw
  have hargs' : xargs.map a.eval = args.toArray := by
    have h2 := evs ha xargs.toList args hargs
    apply Array.toList_inj.1
    simpa using h2
  rw [wpK, if_pos (by simp [Region.wanted])]
  show Oper.wp P _ a w (fun a w => (freeSt sr ops _ = false → ∀ R ∈ St, SL.holds R w) ∧ wpK P sr ops Q St rest a w) Q
  have hrun : (execOp a.eval ⟨d, .call { callee := .invoke recv name, args := xargs, argTypes := ats }, ty, pos, af, none⟩).run P w = .ok (.enter f (v :: args).toArray) w := by
    simp only [execOp, resolve, ha.ev hr, hargs', Sem.run_bind, Sem.run_pure, Result.andThen_ok, Go.invoke]
    simp [callMethod, hm.run, hc.run]
  simp only [Oper.wp, hrun, Oper.upon_enter]
  refine (hs0.run o w Rs (hw.lift he.lift)).mono ?_
  rintro e w' ⟨v, Ps, rfl, hq, hw'⟩
  exact ⟨fun _ => (hI.app (Ps := Ps)).holds hw', k v Ps hq _ _ (ha.put hd v) hw'⟩
/-! comparisons of interface values with nil -/
/-- Is an interface value nil? -/
inductive IsNil : Value → Bool → Prop
  | nil : IsNil .nilIface true
  | val (t : TypeId) (u : Value) : IsNil (.iface t u) false
theorem kind_cmp {op : BinOp} {t t2 : TypeId} {x y : Operand} : kind P (.binOp op t x y t2) ≠ .eff := by
  simp only [kind]; split <;> (intro h; cases h)
theorem W.iface_nil {t t2 : TypeId} {x y : Operand} {v : Value} {p : Bool} [ht : IfaceTy P t] (hx : ev xs x = some v) (hv : IsNil v p) (hy : y = .const .nilIface) (hd : fits n d = true)
    (k : W P n o sr ops Q St rest (put d (.bool p) xs) hs) : W P n o sr ops Q St (⟨d, .binOp .eql t x y t2, ty, pos, af, none⟩ :: rest) xs hs :=
  W.val rfl kind_cmp hd (fun a w ha => by
    subst hy
    obtain ⟨ms, hu⟩ := ht.und
    show ((do eqGuard .eql t x (.const .nilIface) (a.eval x) .nilIface; binOp .eql t (a.eval x) .nilIface : Sem Value) >>= fun v => pure (Next.value v)).run P w = _
    rw [ha.ev hx]
    cases hv with
    | nil =>
      have h : ∀ dd : Nat, (Op.equalIn (dd + 1) t .nilIface .nilIface).run P w = .ok true w := fun dd => by simp [Op.equalIn, run_underlying hu]
      simp [eqGuard, binOp, Op.equal, Op.maxDepth, h 9999]
    | val t' u =>
      have h : ∀ dd : Nat, (Op.equalIn (dd + 1) t (.iface t' u) .nilIface).run P w = .ok false w := fun dd => by simp [Op.equalIn, run_underlying hu]
      simp [eqGuard, binOp, Op.equal, Op.maxDepth, h 9999]) k
theorem W.iface_not {t t2 : TypeId} {x y : Operand} {v : Value} {p : Bool} [ht : IfaceTy P t] (hx : ev xs x = some v) (hv : IsNil v p) (hy : y = .const .nilIface) (hd : fits n d = true)
    (k : W P n o sr ops Q St rest (put d (.bool (!p)) xs) hs) : W P n o sr ops Q St (⟨d, .binOp .neq t x y t2, ty, pos, af, none⟩ :: rest) xs hs :=
  W.val rfl kind_cmp hd (fun a w ha => by
    subst hy
    obtain ⟨ms, hu⟩ := ht.und
    show ((do eqGuard .neq t x (.const .nilIface) (a.eval x) .nilIface; binOp .neq t (a.eval x) .nilIface : Sem Value) >>= fun v => pure (Next.value v)).run P w = _
    rw [ha.ev hx]
    cases hv with
    | nil =>
      have h : ∀ dd : Nat, (Op.equalIn (dd + 1) t .nilIface .nilIface).run P w = .ok true w := fun dd => by simp [Op.equalIn, run_underlying hu]
      simp [eqGuard, binOp, Op.equal, Op.maxDepth, h 9999]
    | val t' u =>
      have h : ∀ dd : Nat, (Op.equalIn (dd + 1) t (.iface t' u) .nilIface).run P w = .ok false w := fun dd => by simp [Op.equalIn, run_underlying hu]
      simp [eqGuard, binOp, Op.equal, Op.maxDepth, h 9999]) k
/-- Interface values of two types: other ones. -/
theorem W.iface_types {t t2 ta tb : TypeId} {x y : Operand} {u v : Value} [ht : IfaceTy P t] (hx : ev xs x = some (.iface ta u)) (hy : ev xs y = some (.iface tb v)) (hne : ta ≠ tb) (hd : fits n d = true)
    (k : W P n o sr ops Q St rest (put d (.bool false) xs) hs) : W P n o sr ops Q St (⟨d, .binOp .eql t x y t2, ty, pos, af, none⟩ :: rest) xs hs :=
  W.val rfl kind_cmp hd (fun a w ha => by
    obtain ⟨ms, hu⟩ := ht.und
    show ((do eqGuard .eql t x y (a.eval x) (a.eval y); binOp .eql t (a.eval x) (a.eval y) : Sem Value) >>= fun v => pure (Next.value v)).run P w = _
    rw [ha.ev hx, ha.ev hy]
    simp [eqGuard, run_eql_iface_types ta tb u v hu hne w]) k
class CmpInt (P : Program) (t : TypeId) (k : outParam IntKind) : Prop where
  und : P.underlying t = some (.int k)
  cmp : ∃ i, P.info? t = some i ∧ i.comparable = true
def cmpIntB (P : Program) (t : TypeId) : Option IntKind := match P.underlying t, P.info? t with | some (.int k), some i => if i.comparable then some k else none | _, _ => none
theorem CmpInt.of {P : Program} {t : TypeId} {k : IntKind} (h : cmpIntB P t = some k) : CmpInt P t k := by
  unfold cmpIntB at h
  split at h
  · rename_i hu hi
    split at h
    · cases h; exact ⟨hu, _, hi, by assumption⟩
    · cases h
  · cases h
/-- Interface values that hold numbers of one type. -/
theorem W.iface_ints {t t2 ta : TypeId} {x y : Operand} {a b : Int} {kd : IntKind} [ht : IfaceTy P t] [hc : CmpInt P ta kd] (hx : ev xs x = some (.iface ta (.int kd a))) (hy : ev xs y = some (.iface ta (.int kd b))) (hd : fits n d = true)
    (k : W P n o sr ops Q St rest (put d (.bool (a == b)) xs) hs) : W P n o sr ops Q St (⟨d, .binOp .eql t x y t2, ty, pos, af, none⟩ :: rest) xs hs :=
  W.val rfl kind_cmp hd (fun ac w ha => by
    obtain ⟨ms, hu⟩ := ht.und
    obtain ⟨i, hi, hcm⟩ := hc.cmp
    show ((do eqGuard .eql t x y (ac.eval x) (ac.eval y); binOp .eql t (ac.eval x) (ac.eval y) : Sem Value) >>= fun v => pure (Next.value v)).run P w = _
    rw [ha.ev hx, ha.ev hy]
    have h : ∀ dd : Nat, (Op.equalIn (dd + 2) t (.iface ta (.int kd a)) (.iface ta (.int kd b))).run P w = .ok (a == b) w := fun dd => by
      simp [Op.equalIn, run_underlying hu, run_underlying hc.und, typeInfo, hi, hcm]
    simp [eqGuard, binOp, Op.equal, Op.maxDepth, h 9998]) k
end
end Go.SL
