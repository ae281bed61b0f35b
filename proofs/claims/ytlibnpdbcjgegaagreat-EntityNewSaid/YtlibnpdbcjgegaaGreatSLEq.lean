/-
  Structs of plain fields held against each other; function values called.
-/
import Derived.Test.YtlibnpdbcjgegaaGreatSLAuto
import Derived.Laws.StructEq
namespace Go.SL
set_option linter.unusedVariables false
inductive FK
  | i (k : IntKind)
  | b
  | s
def fkOf (P : Program) (t : TypeId) : Option FK :=
  match P.underlying t with
  | some (.int k) => some (.i k)
  | some .bool => some .b
  | some .string => some .s
  | _ => none
def fldsB (P : Program) : Nat → List Field → Option (List FK)
  | _, [] => some []
  | off, f :: fs =>
    if f.name ≠ "_" ∧ f.offset = off ∧ oneB P f.type = true then
      match fkOf P f.type, fldsB P (off + 1) fs with
      | some k, some ks => some (k :: ks)
      | _, _ => none
    else none
def flatB (P : Program) (t : TypeId) : Option (List FK) :=
  match P.underlying t with
  | some (.struct fs) => if P.stoodInHeld t = false ∧ P.eqGuardType P.depth t = false then fldsB P 0 fs.toList else none
  | _ => none
class FlatTy (P : Program) (t : TypeId) (ks : outParam (List FK)) : Prop where
  of : flatB P t = some ks
def feq : FK → Value → Value → Option Bool
  | .i _, .int k a, .int k' b => if k = k' then some (a == b) else none
  | .b, .bool a, .bool b => some (a == b)
  | .s, .string a, .string b => some (a.data.toList == b.data.toList)
  | _, _, _ => none
def aggEq : List FK → List Value → List Value → Option Bool
  | [], [], [] => some true
  | k :: ks, v :: vs, u :: us => match feq k v u, aggEq ks vs us with
    | some b, some r => some (b && r)
    | _, _ => none
  | _, _, _ => none
section
variable {P : Program}
theorem run_feq {d : Nat} {t : TypeId} {k : FK} {v u : Value} {b : Bool} (w : World) (hk : fkOf P t = some k) (h : feq k v u = some b) : (Op.equalIn (d + 1) t v u).run P w = .ok b w := by
  unfold fkOf at hk
  split at hk
  · rename_i k' hu
    cases hk
    cases v <;> first | cases h | skip
    cases u <;> first | cases h | skip
    rename_i ka a kb b'
    simp only [feq] at h
    split at h
    · rename_i e; subst e; cases h
      simp [Op.equalIn, run_underlying hu]
    · cases h
  · rename_i hu
    cases hk
    cases v <;> first | cases h | skip
    cases u <;> first | cases h | skip
    simp [Op.equalIn, run_underlying hu]
  · rename_i hu
    cases hk
    cases v <;> first | cases h | skip
    cases u <;> first | cases h | skip
    rename_i x y
    have : (x == y) = (x.data.toList == y.data.toList) := by
      obtain ⟨⟨x⟩⟩ := x
      obtain ⟨⟨y⟩⟩ := y
      show ((⟨x⟩ : Array UInt8) == ⟨y⟩) = (x == y)
      simp
    simp [Op.equalIn, run_underlying hu, this]
  · cases hk
theorem run_part {t : TypeId} {cs : Array Value} {off : Nat} {v : Value} (w : World) (h1 : oneB P t = true) (hv : cs[off]? = some v) : (part t cs off).run P w = .ok v w := by
  have h := (One.of h1).agg w
  simp [part, h, hv]
theorem run_flds {d : Nat} (w : World) : ∀ (fs : List Field) (ks : List FK) (off : Nat) (vs us pv pu : List Value) (b : Bool), fldsB P off fs = some ks → pv.length = off → pu.length = off → aggEq ks vs us = some b →
    (Op.eqFields (d + 1) (pv ++ vs).toArray (pu ++ us).toArray fs).run P w = .ok b w
  | [], ks, off, vs, us, pv, pu, b, h, _, _, hb => by
    cases h
    cases vs with
    | cons => cases us <;> cases hb
    | nil =>
      cases us with
      | cons => cases hb
      | nil => cases hb; rfl
  | f :: fs, ks, off, vs, us, pv, pu, b, h, hv, hu, hb => by
    simp only [fldsB] at h
    split at h
    · rename_i hc
      obtain ⟨hn, ho, h1⟩ := hc
      split at h
      · rename_i k ks' hk hks
        cases h
        cases vs with
        | nil => cases us <;> cases hb
        | cons v vs =>
          cases us with
          | nil => cases hb
          | cons u us =>
            simp only [aggEq] at hb
            split at hb
            · rename_i b' r hb' hr
              cases hb
              have p1 := run_part (cs := (pv ++ v :: vs).toArray) (off := f.offset) (v := v) w h1 (by rw [ho, ← hv]; simp)
              have p2 := run_part (cs := (pu ++ u :: us).toArray) (off := f.offset) (v := u) w h1 (by rw [ho, ← hu]; simp)
              have p3 := run_feq (d := d) w hk hb'
              have ih := run_flds (d := d) w fs ks' (off + 1) vs us (pv ++ [v]) (pu ++ [u]) r hks (by simp [hv]) (by simp [hu]) hr
              simp only [List.append_assoc, List.singleton_append] at ih
              simp only [Op.eqFields]
              rw [if_pos hn, Sem.run_bind, p1, Result.andThen_ok, Sem.run_bind, p2, Result.andThen_ok, Sem.run_bind, p3, Result.andThen_ok]
              cases b' with
              | false => simp
              | true => simp only [Bool.not_true, Bool.false_eq_true, if_false, Bool.true_and]; exact ih
            · cases hb
      · cases h
    · cases h
theorem run_aggEq {t : TypeId} {ks : List FK} {vs us : List Value} {b : Bool} (w : World) (d : Nat) (ht : flatB P t = some ks) (hb : aggEq ks vs us = some b) : (Op.equalIn (d + 2) t (.agg vs.toArray) (.agg us.toArray)).run P w = .ok b w := by
  unfold flatB at ht
  split at ht
  · rename_i fs hu
    split at ht
    · rename_i hc
      have hf : P.fieldsOf t = fs := by simp [Program.fieldsOf, hu]
      rw [run_equalIn_struct w (d + 1) t _ _ (by rw [hf]; exact hu) hc.1, hf]
      exact run_flds w fs.toList ks 0 vs us [] [] b ht rfl rfl hb
    · cases ht
  · cases ht
theorem flat_guard {t : TypeId} {ks : List FK} (ht : flatB P t = some ks) : P.eqGuardType P.depth t = false := by
  unfold flatB at ht
  split at ht
  · split at ht
    · rename_i hc; exact hc.2
    · cases ht
  · cases ht
variable {n : Nat} {o : Outer} {sr : List Tmp} {ops : Array Oper} {Q : Post} {St : List HProp} {rest : List Oper} {xs : Env} {hs : List HProp}
variable {d : Option Tmp} {ty : TypeId} {pos : String} {af : Array Edge}
theorem W.agg_eq {t t2 : TypeId} {x y : Operand} {vs us : List Value} {ks : List FK} {b : Bool} [ht : FlatTy P t ks] (hx : ev xs x = some (.agg vs.toArray)) (hy : ev xs y = some (.agg us.toArray)) (hb : aggEq ks vs us = some b) (hd : fits n d = true)
    (k : W P n o sr ops Q St rest (put d (.bool b) xs) hs) : W P n o sr ops Q St (⟨d, .binOp .eql t x y t2, ty, pos, af, none⟩ :: rest) xs hs :=
  W.val rfl (by simp only [kind]; split <;> (intro h; cases h)) hd (fun ac w ha => by
    have h1 := run_aggEq (P := P) w 9998 ht.of hb
    show ((do eqGuard .eql t x y (ac.eval x) (ac.eval y); binOp .eql t (ac.eval x) (ac.eval y) : Sem Value) >>= fun v => pure (Next.value v)).run P w = _
    rw [ha.ev hx, ha.ev hy, Sem.run_bind, Sem.run_bind, run_eqGuard_agg w .eql t x y _ _ (flat_guard ht.of), Result.andThen_ok, run_eql_struct, h1]
    rfl) k
theorem W.agg_ne {t t2 : TypeId} {x y : Operand} {vs us : List Value} {ks : List FK} {b : Bool} [ht : FlatTy P t ks] (hx : ev xs x = some (.agg vs.toArray)) (hy : ev xs y = some (.agg us.toArray)) (hb : aggEq ks vs us = some b) (hd : fits n d = true)
    (k : W P n o sr ops Q St rest (put d (.bool (!b)) xs) hs) : W P n o sr ops Q St (⟨d, .binOp .neq t x y t2, ty, pos, af, none⟩ :: rest) xs hs :=
  W.val rfl (by simp only [kind]; split <;> (intro h; cases h)) hd (fun ac w ha => by
    have h1 := run_aggEq (P := P) w 9998 ht.of hb
    show ((do eqGuard .neq t x y (ac.eval x) (ac.eval y); binOp .neq t (ac.eval x) (ac.eval y) : Sem Value) >>= fun v => pure (Next.value v)).run P w = _
    rw [ha.ev hx, ha.ev hy, Sem.run_bind, Sem.run_bind, run_eqGuard_agg w .neq t x y _ _ (flat_guard ht.of), Result.andThen_ok, run_neq_struct, h1]
    rfl) k
def evl (xs : Env) : List Operand → Option (List Value)
  | [] => some []
  | x :: r => match ev xs x, evl xs r with | some v, some l => some (v :: l) | _, _ => none
theorem evl_map {xs : Env} : ∀ {l : List Operand} {vs : List Value}, evl xs l = some vs → l.map (ev xs) = vs.map some
  | [], vs, h => by cases h; rfl
  | x :: r, vs, h => by
    simp only [evl] at h
    split at h
    · rename_i v l hv hl
      cases h
      simp only [List.map_cons, hv, evl_map hl]
    · cases h
/-! slices written out -/
def evq (xs : Env) : List (Nat × Operand) → Option (List (Nat × Value))
  | [] => some []
  | (i, x) :: r => match ev xs x, evq xs r with | some v, some l => some ((i, v) :: l) | _, _ => none
theorem evq_map {xs : Env} : ∀ {ps : List (Nat × Operand)} {es : List (Nat × Value)}, evq xs ps = some es → ps.map (fun p => (p.1, ev xs p.2)) = es.map (fun p => (p.1, some p.2))
  | [], es, h => by cases h; rfl
  | (i, x) :: r, es, h => by
    simp only [evq] at h
    split at h
    · rename_i v l hv hl
      cases h
      simp only [List.map_cons, hv, evq_map hl]
    · cases h
def intsOf (kd : IntKind) : Nat → List (Nat × Value) → Option (List Int)
  | _, [] => some []
  | k, (i, .int kd' z) :: r => if i = k ∧ kd' = kd then match intsOf kd (k + 1) r with | some l => some (z :: l) | none => none else none
  | _, _ => none
theorem intsOf_spec {kd : IntKind} : ∀ {es : List (Nat × Value)} {k : Nat} {zs : List Int}, intsOf kd k es = some zs → es = enum k (zs.map (Value.int kd))
  | [], k, zs, h => by cases h; rfl
  | (i, v) :: r, k, zs, h => by
    cases v <;> simp only [intsOf, reduceCtorEq] at h
    split at h
    · rename_i hc
      split at h
      · rename_i l hl
        cases h
        obtain ⟨rfl, rfl⟩ := hc
        simp only [List.map_cons, enum, ← intsOf_spec hl]
      · cases h
    · cases h
def strsOf : Nat → List (Nat × Value) → Option (List (List UInt8))
  | _, [] => some []
  | k, (i, .string s) :: r => if i = k then match strsOf (k + 1) r with | some l => some (s.data.toList :: l) | none => none else none
  | _, _ => none
theorem strsOf_spec : ∀ {es : List (Nat × Value)} {k : Nat} {zs : List (List UInt8)}, strsOf k es = some zs → es = enum k (zs.map fun s => str s)
  | [], k, zs, h => by cases h; rfl
  | (i, v) :: r, k, zs, h => by
    cases v <;> simp only [strsOf, reduceCtorEq] at h
    split at h
    · rename_i hc
      split at h
      · rename_i l hl
        cases h
        subst hc
        simp only [List.map_cons, enum, ← strsOf_spec hl]
      · cases h
    · cases h
theorem W.bsi {t e by_ m : Nat} {kd : IntKind} {parts : Array (Nat × Operand)} {es : List (Nat × Value)} {zs : List Int} [ht : SliceTy P t e 1 by_] [hk : IntTy P e kd] (hp : evq xs parts.toList = some es) (hz : intsOf kd 0 es = some zs) (hm : m = zs.length) (hml : Nat.ble zs.length 100000 = true) (hd : fits n d = true) (hI : Incl St hs)
    (k : ∀ b, W P n o sr ops Q St rest (put d (.slice (some ⟨b, 0, none⟩) zs.length zs.length) xs) (sl (Enc.int kd) e (some ⟨b, 0, none⟩) zs.length zs :: hs)) :
    W P n o sr ops Q St (⟨d, .buildSlice t m parts, ty, pos, af, none⟩ :: rest) xs hs := by
  have h := intsOf_spec hz
  refine W.buildSlice (ht := ht) (Enc.int kd) zs (vs := zs.map (Value.int kd)) hm (by have := Nat.le_of_ble_eq_true hml; simp; omega) (by rw [← h]; exact evq_map hp) ?_ hd hI k
  rw [List.map_map]; rfl
theorem W.bss {t e by_ m : Nat} {parts : Array (Nat × Operand)} {es : List (Nat × Value)} {zs : List (List UInt8)} [ht : SliceTy P t e 1 by_] (hp : evq xs parts.toList = some es) (hz : strsOf 0 es = some zs) (hm : m = zs.length) (hml : Nat.ble zs.length 100000 = true) (hd : fits n d = true) (hI : Incl St hs)
    (k : ∀ b, W P n o sr ops Q St rest (put d (.slice (some ⟨b, 0, none⟩) zs.length zs.length) xs) (sl Enc.str e (some ⟨b, 0, none⟩) zs.length zs :: hs)) :
    W P n o sr ops Q St (⟨d, .buildSlice t m parts, ty, pos, af, none⟩ :: rest) xs hs := by
  have h := strsOf_spec hz
  refine W.buildSlice (ht := ht) Enc.str zs (vs := zs.map fun s => str s) hm (by have := Nat.le_of_ble_eq_true hml; simp; omega) (by rw [← h]; exact evq_map hp) ?_ hd hI k
  rw [List.map_map]; rfl
/-! struct values and slices of them -/
class TyEnc (P : Program) (e : TypeId) {α : outParam Type} (En : outParam (Enc α)) : Prop where
  mk ::
class Elt {α : Type} (En : Enc α) (vs : List Value) (y : outParam α) : Prop where
  eq : En.f y = vs
theorem W.sla {t e sz by_ : Nat} {α : Type} {En : Enc α} {y : α} {x : Operand} {vs : List Value} [ht : SliceTy P t e sz by_] [TyEnc P e En] [hy : Elt En vs y] (hx : ev xs x = some (.agg vs.toArray)) (hsz : En.sz = sz) (hb : Nat.ble En.sz 4096 = true) (hd : fits n d = true) (hI : Incl St hs)
    (k : ∀ b, W P n o sr ops Q St rest (put d (.slice (some ⟨b, 0, none⟩) 1 1) xs) (sl En e (some ⟨b, 0, none⟩) 1 [y] :: hs)) :
    W P n o sr ops Q St (⟨d, .buildSlice t 1 #[(0, x)], ty, pos, af, none⟩ :: rest) xs hs := by
  subst hsz
  exact W.slice1 (ht := ht) En y hx (by rw [hy.eq]; rfl) hb hd hI k
class FieldOne (P : Program) (t f : Nat) (off : outParam Nat) : Prop where
  run : ∀ (w : World) (vs : List Value) (v : Value), vs[off]? = some v → (Instr.field t (.agg vs.toArray) f).run P w = .ok v w
def fieldOneB (P : Program) (t f : Nat) : Option Nat :=
  match P.underlying t with
  | some (.struct fs) => match fs[f]? with
    | some fl => if oneB P fl.type = true then some fl.offset else none
    | none => none
  | _ => none
theorem FieldOne.of {t f off : Nat} (h : fieldOneB P t f = some off) : FieldOne P t f off := by
  refine ⟨fun w vs v hv => ?_⟩
  unfold fieldOneB at h
  split at h
  · rename_i fs hu
    split at h
    · rename_i fl hf
      split at h
      · rename_i h1
        cases h
        have := run_part (P := P) (cs := vs.toArray) (off := fl.offset) (v := v) w h1 (by simpa using hv)
        simp [Instr.field, run_underlying hu, hf, asAgg, this]
      · cases h
    · cases h
  · cases h
theorem W.fld {t f off : Nat} {x : Operand} {vs : List Value} {v : Value} [hf : FieldOne P t f off] (hx : ev xs x = some (.agg vs.toArray)) (hv : vs[off]? = some v) (hd : fits n d = true)
    (k : W P n o sr ops Q St rest (put d v xs) hs) : W P n o sr ops Q St (⟨d, .field t x f, ty, pos, af, none⟩ :: rest) xs hs :=
  W.val rfl (by simp [kind]) hd (fun ac w ha => by
    show ((Instr.field t (ac.eval x) f) >>= fun v => pure (Next.value v)).run P w = _
    rw [ha.ev hx, Sem.run_bind, hf.run w vs v hv]; rfl) k
theorem W.mkf {fn : Fn} {xa xc : Array Operand} {la lc : List Value} (ha : evl xs xa.toList = some la) (hc : evl xs xc.toList = some lc) (hd : fits n d = true)
    (k : W P n o sr ops Q St rest (put d (.func fn la.toArray lc.toArray) xs) hs) : W P n o sr ops Q St (⟨d, .makeFunc fn xa xc, ty, pos, af, none⟩ :: rest) xs hs :=
  W.val rfl (by simp [kind]) hd (fun ac w hac => by
    have key : ∀ (l : List Operand) (vs : List Value), l.map (ev xs) = vs.map some → l.map ac.eval = vs := by
      intro l
      induction l with
      | nil => intro vs h; cases vs with
        | nil => rfl
        | cons => cases h
      | cons x l ih => intro vs h; cases vs with
        | nil => cases h
        | cons v vs =>
          simp only [List.map_cons, List.cons.injEq] at h ⊢
          exact ⟨hac.ev h.1, ih vs h.2⟩
    have h1 : xa.map ac.eval = la.toArray := by have := key _ _ (evl_map ha); apply Array.toList_inj.1; simpa using this
    have h2 : xc.map ac.eval = lc.toArray := by have := key _ _ (evl_map hc); apply Array.toList_inj.1; simpa using this
    show ((Instr.makeFunc fn (xa.map ac.eval) (xc.map ac.eval)) >>= fun v => pure (Next.value v)).run P w = _
    rw [h1, h2]; rfl) k
theorem wrapu64 {a : Int} (h1 : 0 ≤ a) (h2 : a ≤ 18446744073709551615) : IntKind.u64.wrap a = a := wrapu rfl h1 (by show a < 18446744073709551616; omega)
/-- In which order one walks a region that draws its order: the loads that stay what they are, the order. -/
class Plan (id : Nat) (sr : outParam (List Tmp)) (π : outParam (List Nat)) : Prop where
  mk ::
theorem C.region_by {id : Nat} {sr : List Tmp} {π : List Nat} {l : List Oper} [Plan id sr π] (hm : P.follows .mixedOrders = true) (hc : calmB P sr l π = true) (hQ : Calm Q) (h : W P n o sr l.toArray Q [] (pick l.toArray π) xs hs) : C P n o Q (.region id l.toArray true) xs hs :=
  C.region_draw sr π hm hc hQ h
/-- A function value called. -/
theorem W.callv {f : FuncId} {fx : Operand} {args all : List Value} {first captured : Array Value} {xargs : Array Operand} {ats : Array TypeId} {Pre Rs : List HProp} {q : Value → List HProp → Prop}
    [hc : Callable P f] (hf : ev xs fx = some (.func (.func f) first captured)) (hargs : evl xs xargs.toList = some args) (hall' : first.toList ++ args ++ captured.toList = all) (he : Ent hs Pre Rs) (hd : fits n d = true) (hI : Incl St Rs) (hs0 : Trip P f all Pre q)
    (k : ∀ v Ps, q v Ps → W P n o sr ops Q St rest (put d v xs) (Ps ++ Rs)) :
    W P n o sr ops Q St (⟨d, .call { callee := .value fx, args := xargs, argTypes := ats }, ty, pos, af, none⟩ :: rest) xs hs := by
  subst hall'
  constructor; intro a w ha hw
  have hargs' : xargs.map a.eval = args.toArray := by
    have : ∀ (l : List Operand) (vs : List Value), l.map (ev xs) = vs.map some → l.map a.eval = vs := by
      intro l
      induction l with
      | nil => intro vs h; cases vs with
        | nil => rfl
        | cons => cases h
      | cons x l ih => intro vs h; cases vs with
        | nil => cases h
        | cons v vs =>
          simp only [List.map_cons, List.cons.injEq] at h ⊢
          exact ⟨ha.ev h.1, ih vs h.2⟩
    have h2 := this xargs.toList args (evl_map hargs)
    apply Array.toList_inj.1
    simpa using h2
  rw [wpK, if_pos (by simp [Region.wanted])]
  show Oper.wp P _ a w (fun a w => (freeSt sr ops _ = false → ∀ R ∈ St, SL.holds R w) ∧ wpK P sr ops Q St rest a w) Q
  have hall : first ++ args.toArray ++ captured = (first.toList ++ args ++ captured.toList).toArray := by
    apply Array.toList_inj.1; simp
  have hr : (execOp a.eval ⟨d, .call { callee := .value fx, args := xargs, argTypes := ats }, ty, pos, af, none⟩).run P w = .ok (.enter f (first.toList ++ args ++ captured.toList).toArray) w := by
    simp only [Go.execOp, Go.resolve, ha.ev hf, Deferred.ofValue, Go.invoke, hargs', hall, Sem.run_bind, Sem.run_pure, Result.andThen_ok, hc.run]
  simp only [Oper.wp, hr, Oper.upon_enter]
  refine (hs0.run o w Rs (hw.lift he.lift)).mono ?_
  rintro e w' ⟨v, Ps, rfl, hq, hw'⟩
  exact ⟨fun _ => (hI.app (Ps := Ps)).holds hw', k v Ps hq _ _ (ha.put hd v) hw'⟩
/-- A call that hands back what it was handed. -/
theorem W.callp {f : FuncId} {args : List Value} {xargs : Array Operand} {ats : Array TypeId} {Pre Rs : List HProp} {φ : Value → Prop}
    [hc : Callable P f] (hargs : xargs.toList.map (ev xs) = args.map some) (he : Ent hs Pre Rs) (hd : fits n d = true) (hI : Incl St (Pre ++ Rs)) (hs0 : Trip P f args Pre (fun v Ps => φ v ∧ Ps = Pre))
    (k : ∀ v, φ v → W P n o sr ops Q St rest (put d v xs) (Pre ++ Rs)) :
    W P n o sr ops Q St (⟨d, .call { callee := .value (.func f), args := xargs, argTypes := ats }, ty, pos, af, none⟩ :: rest) xs hs := by
  constructor; intro a w ha hw
  have hargs' : xargs.map a.eval = args.toArray := by
    have : ∀ (l : List Operand) (vs : List Value), l.map (ev xs) = vs.map some → l.map a.eval = vs := by
      intro l
      induction l with
      | nil => intro vs h; cases vs with
        | nil => rfl
        | cons => cases h
      | cons x l ih => intro vs h; cases vs with
        | nil => cases h
        | cons v vs =>
          simp only [List.map_cons, List.cons.injEq] at h ⊢
          exact ⟨ha.ev h.1, ih vs h.2⟩
    have h2 := this xargs.toList args hargs
    apply Array.toList_inj.1
    simpa using h2
  rw [wpK, if_pos (by simp [Region.wanted])]
  show Oper.wp P _ a w (fun a w => (freeSt sr ops _ = false → ∀ R ∈ St, SL.holds R w) ∧ wpK P sr ops Q St rest a w) Q
  have hr : (execOp a.eval ⟨d, .call { callee := .value (.func f), args := xargs, argTypes := ats }, ty, pos, af, none⟩).run P w = .ok (.enter f args.toArray) w := by
    simp [execOp, Go.resolve, Act.eval, Deferred.ofValue, Go.invoke, hc.run, hargs']
  simp only [Oper.wp, hr, Oper.upon_enter]
  refine (hs0.run o w Rs (hw.lift he.lift)).mono ?_
  rintro e w' ⟨v, Ps, rfl, ⟨hq, rfl⟩, hw'⟩
  exact ⟨fun _ => hI.holds hw', k v hq _ _ (ha.put hd v) hw'⟩
end
end Go.SL
