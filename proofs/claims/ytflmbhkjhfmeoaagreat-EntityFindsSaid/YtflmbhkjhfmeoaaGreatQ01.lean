/-
  Walks and laws joined: SLBase SLMake SLIface SLMerge SLFrz SLAgg SLAuto SLEq SLRes SLMany SLNorm SLStar Inst SLMap LnPure.
-/
import Derived.Test.YtflmbhkjhfmeoaaGreatQ00
import Derived.Laws.MakeOwn
import Derived.LaidEql
import Derived.Stop.Asserts
import Derived.Laws.Externs
import Derived.KernelRfl
import Derived.Lib.LazyBuf
import Derived.Laws.StructEq
import Derived.Laws.BitsAllLaws
import Derived.Test.YtflmbhkjhfmeoaaGreatProg
import Derived.MapKept
import Derived.Lib.FieldsP
import Derived.Lib.ItoaNum
import Derived.Laws.RangeAny
set_option linter.unusedVariables false
set_option linter.unusedSimpArgs false
namespace Go.SL
open Go.RowKit
def base (W : World) : HProp := fun f => f = fun b => (W.heap[b]?).map (fun o => (true, o))
theorem sat_base (W : World) : Sat (outer W) W [base W] := by
  refine ⟨rfl, [(base W, fun b => (W.heap[b]?).map (fun o => (true, o)))], rfl, fun p hp => ?_, by simp⟩
  simp only [List.mem_singleton] at hp; subst hp
  refine ⟨rfl, fun b x hb => ?_⟩
  cases h : W.heap[b]? with
  | none => simp [h] at hb
  | some o => simp [h] at hb; subst hb; rfl
theorem Sat.mem {o : Outer} {w : World} {Ps : List HProp} (h : Sat o w Ps) {A : HProp} (hA : A ∈ Ps) : ∃ f, A f ∧ Holds w f := by
  obtain ⟨_, l, h1, h2, _⟩ := h
  subst h1
  obtain ⟨p, hp, rfl⟩ := List.mem_map.1 hA
  exact ⟨p.2, h2 p hp⟩
theorem base_holds {W w : World} {f : Hp} (hf : base W f) (hw : Holds w f) (b : Nat) (hb : b < W.heap.size) : w.heap[b]? = W.heap[b]? := by
  have hb' : W.heap[b]? = some W.heap[b] := Array.getElem?_eq_getElem hb
  rw [hb']
  refine hw b (true, W.heap[b]) ?_
  rw [hf]; simp [hb']
theorem Trip.calls {P : Program} {f : FuncId} {args : List Value} {W : World} {q : Value → List HProp → Prop} (h : Trip P f args [base W] q) (hq : ∀ v Ps, q v Ps → v = .bool true ∧ base W ∈ Ps) :
    Calls P f args.toArray W fun e w' => e = .returned (.bool true) ∧ Below W.heap.size W w' := by
  refine (h.run (outer W) W [] (sat_base W)).mono ?_
  rintro e w' ⟨v, Ps, rfl, hv, hs⟩
  obtain ⟨rfl, hb⟩ := hq v Ps hv
  refine ⟨rfl, ?_⟩
  obtain ⟨f, hf, hw⟩ := hs.mem (List.mem_append_left _ hb)
  have hk := fun k hk => base_holds hf hw k hk
  have ho : outer w' = outer W := hs.1
  simp only [outer, Outer.mk.injEq] at ho
  refine ⟨ho.1, ho.2.1, ho.2.2, ?_, hk⟩
  rcases Nat.eq_zero_or_pos W.heap.size with h0 | h0
  · omega
  · have h1 := (hk (W.heap.size - 1) (by omega)).trans (Array.getElem?_eq_getElem (by omega))
    have h2 := (Array.getElem?_eq_some_iff.1 h1).1; omega
theorem Trip.keep {P : Program} {f : FuncId} {args : List Value} {q : Value → List HProp → Prop} (B : HProp) (h : Trip P f args [] q) : Trip P f args [B] (fun v Ps' => ∃ Ps, q v Ps ∧ Ps' = Ps ++ [B]) := by
  constructor; intro o w Rs hw
  refine (h.run o w (B :: Rs) hw).mono ?_
  rintro e w' ⟨v, Ps, rfl, hq, hs⟩
  exact ⟨v, Ps ++ [B], rfl, ⟨Ps, hq, rfl⟩, by simpa using hs⟩
theorem Trip.calls0 {P : Program} {f : FuncId} {args : List Value} {W : World} {q : Value → List HProp → Prop} (h : Trip P f args [] q) (hq : ∀ v Ps, q v Ps → v = .bool true) :
    Calls P f args.toArray W fun e w' => e = .returned (.bool true) ∧ Below W.heap.size W w' :=
  (h.keep (base W)).calls (fun v Ps' ⟨Ps, h1, h2⟩ => ⟨hq v Ps h1, by rw [h2]; simp⟩)
theorem str_data (s : ByteArray) : str s.data.toList = .string s := by
  cases s; simp [str]
theorem reads_base {α : Type} {E : Enc α} {W : World} {A : Option Addr} {xs : List α} (h : xs = [] ∨ ∃ g off, A = some ⟨g, off, none⟩ ∧ ∀ i v, (E.all xs)[i]? = some v → W.cell? ⟨g, off + i, none⟩ = some v) : Reads (base W) E A xs := by
  intro f w hf hw
  rcases h with h | ⟨g, off, hA, hc⟩
  · exact .inl h
  · refine .inr ⟨g, off, hA, fun i v hv => ?_⟩
    have := hc i v hv
    have hlt := World.block_lt_of_cell? W _ this
    rw [World.cell?_of_block (w := W) (base_holds hf hw g hlt)]; exact this
theorem reads_ints {W : World} {k : IntKind} {x : Addr} {len : Nat} {zs : List Int} (hl : len ≤ zs.length) (hc : ∀ i, i < zs.length → W.cell? (x.add i) = some (.int k (zs.getD i 0))) :
    Reads (base W) (Enc.int k) (some x) (zs.take len) := by
  by_cases h0 : zs = []
  · subst h0; exact fun f w _ _ => .inl List.take_nil
  have hx : x.spot = none := by
    have h1 := hc 0 (List.length_pos_iff.2 h0)
    have h2 : x.add 0 = x := by simp [Addr.add]
    rw [h2] at h1
    cases hs : x.spot with
    | none => rfl
    | some s => simp only [World.cell?, hs, Option.isSome_some, if_true] at h1; split at h1 <;> cases h1
  refine reads_base (.inr ⟨x.block, x.off, ?_, fun i v hv => ?_⟩)
  · obtain ⟨b, o, s⟩ := x; simp only at hx; subst hx; rfl
  · have h1 : (Enc.int k).all (zs.take len) = (zs.take len).map (Value.int k) := by
      simp only [Enc.all]; induction (zs.take len) with
      | nil => rfl
      | cons a l ih => simp [ih]
    rw [h1, List.getElem?_map] at hv
    cases hz : (zs.take len)[i]? with
    | none => rw [hz] at hv; cases hv
    | some z =>
      rw [hz] at hv
      simp only [Option.map_some, Option.some.injEq] at hv
      subst hv
      have hi := (List.getElem?_eq_some_iff.1 hz).1
      rw [List.length_take] at hi
      have h2 := hc i (by omega)
      rw [add_addr x hx] at h2
      rw [h2]
      congr 2
      rw [List.getElem?_take] at hz
      split at hz
      · simp [List.getD_eq_getElem?_getD, hz]
      · cases hz
end Go.SL
namespace Go.SL
open Go.RowKit
theorem Enc.all_set {α : Type} (E : Enc α) (l : List α) (i j : Nat) (y y' : α) (v : Value) (hi : l[i]? = some y) (hj : j < E.sz) (hs : E.f y' = (E.f y).set j v) :
    (E.all l).set (i * E.sz + j) v = E.all (l.set i y') := by
  induction l generalizing i with
  | nil => simp at hi
  | cons x l ih =>
    cases i with
    | zero =>
      simp only [List.getElem?_cons_zero, Option.some.injEq] at hi
      subst hi
      simp only [Enc.all, List.flatMap_cons, List.set_cons_zero, Nat.zero_mul, Nat.zero_add]
      rw [List.set_append_left _ _ (by rw [E.len]; exact hj), hs]
    | succ i =>
      simp only [List.getElem?_cons_succ] at hi
      have := ih i hi
      simp only [Enc.all, List.flatMap_cons, List.set_cons_succ] at this ⊢
      rw [List.set_append_right _ _ (by rw [E.len, Nat.add_mul]; omega), E.len, ← this]
      rw [show (i + 1) * E.sz + j - E.sz = i * E.sz + j from by rw [Nat.add_mul]; omega]
section
variable {P : Program} {n : Nat} {o : Outer} {sr : List Tmp} {ops : Array Oper} {Q : Post} {St : List HProp} {rest : List Oper} {xs : Env} {hs : List HProp}
variable {d : Option Tmp} {ty : TypeId} {pos : String} {af : Array Edge}
variable {α : Type} {A : Option Addr} {c : Nat} {l : List α} {r : List HProp}
theorem W.store_sl {t e g off p : Nat} {x y : Operand} {v : Value} [h1 : One P t] (En : Enc α) (i j : Nat) (u u' : α) (hx : ev xs x = some (.pointer (some ⟨g, p, none⟩))) (hy : ev xs y = some v) (h0 : v.oneCell' = true)
    (hf : Find hs (sl En e (some ⟨g, off, none⟩) c l) r) (hp : p = off + (i * En.sz + j)) (hu : l[i]? = some u) (hj : j < En.sz) (hset : En.f u' = (En.f u).set j v)
    (hI : Keep (freeSt sr ops ⟨none, .store t x y, ty, pos, af, none⟩) St (sl En e (some ⟨g, off, none⟩) c (l.set i u') :: r)) (k : W P n o sr ops Q St rest xs (sl En e (some ⟨g, off, none⟩) c (l.set i u') :: r)) :
    W P n o sr ops Q St (⟨none, .store t x y, ty, pos, af, none⟩ :: rest) xs hs :=
  W.op_skip rfl rfl rfl fun a w ha hw => by
    have hw' := hw.lift hf.lift
    rcases hw'.sl_open with ⟨hn, _⟩ | ⟨g', pre, spare, hA, hl, hc, hsat⟩
    · cases hn
    simp only [Option.some.injEq, Addr.mk.injEq, and_true] at hA
    obtain ⟨rfl, rfl⟩ := hA
    have hi := (List.getElem?_eq_some_iff.1 hu).1
    have hib : i * En.sz + j < (En.all l).length := by
      rw [En.all_length]
      have : (i + 1) * En.sz ≤ l.length * En.sz := Nat.mul_le_mul_right _ hi
      rw [Nat.add_mul] at this; omega
    have hlt : p < (pre ++ En.all l ++ spare).length := by simp only [List.length_append]; omega
    have hcell := hsat.blk_cell (List.getElem?_eq_getElem hlt)
    have hst := hsat.store p v
    have hse : (pre ++ En.all l ++ spare).set p v = pre ++ En.all (l.set i u') ++ spare := by
      rw [hp, List.append_assoc, List.set_append_right _ _ (by omega), show pre.length + (i * En.sz + j) - pre.length = i * En.sz + j from by omega, List.set_append_left _ _ hib, En.all_set l i j u u' v hu hj hset, ← List.append_assoc]
    rw [hse] at hst
    refine ⟨w.setCell ⟨g, p, none⟩ v, _, ?_, hst.sl_close (by rw [En.all_length, List.length_set, ← En.all_length]; exact hl) hc, hI, k⟩
    show ((Instr.storeAt t (a.eval x) (a.eval y)) >>= fun _ => pure Next.skip).run P w = _
    have hcs : v.cells = #[v] := by cases v <;> first | rfl | cases h0
    rw [ha.ev hx, ha.ev hy, Sem.run_bind]
    simp [Instr.storeAt, Instr.sureAddr, storeVar, h1.size, hcs, storeCells, run_store, h0, hcell, hsat.blk_thawed hlt, Addr.add]
theorem W.rem {t t2 : TypeId} {x y : Operand} {kd : IntKind} {a b z : Int} (hx : ev xs x = some (.int kd a)) (hy : ev xs y = some (.int kd b)) (hb : b ≠ 0) (hz : z = a.tmod b) (hd : fits n d = true)
    (k : W P n o sr ops Q St rest (put d (.int kd z) xs) hs) : W P n o sr ops Q St (⟨d, .binOp .rem t x y t2, ty, pos, af, none⟩ :: rest) xs hs :=
  W.val rfl (by simp only [kind]; first | (intro h; cases h; done) | (repeat' split) <;> (intro h; cases h)) hd (fun ac w ha => by
    have hr := run_binOp_int (P := P) .rem t x y kd a b w (by rintro h; cases h) (by rintro h; cases h)
    show ((do eqGuard .rem t x y (ac.eval x) (ac.eval y); binOp .rem t (ac.eval x) (ac.eval y) : Sem Value) >>= fun v => pure (Next.value v)).run P w = _
    rw [ha.ev hx, ha.ev hy, Sem.run_bind, hr]
    simp [Op.intDiv, hb, hz]) k
theorem W.quo {t t2 : TypeId} {x y : Operand} {kd : IntKind} {a b z : Int} (hx : ev xs x = some (.int kd a)) (hy : ev xs y = some (.int kd b)) (hb : b ≠ 0) (hz : z = kd.wrap (a.tdiv b)) (hd : fits n d = true)
    (k : W P n o sr ops Q St rest (put d (.int kd z) xs) hs) : W P n o sr ops Q St (⟨d, .binOp .quo t x y t2, ty, pos, af, none⟩ :: rest) xs hs :=
  W.val rfl (by simp only [kind]; first | (intro h; cases h; done) | (repeat' split) <;> (intro h; cases h)) hd (fun ac w ha => by
    have hr := run_binOp_int (P := P) .quo t x y kd a b w (by rintro h; cases h) (by rintro h; cases h)
    show ((do eqGuard .quo t x y (ac.eval x) (ac.eval y); binOp .quo t (ac.eval x) (ac.eval y) : Sem Value) >>= fun v => pure (Next.value v)).run P w = _
    rw [ha.ev hx, ha.ev hy, Sem.run_bind, hr]
    simp [Op.intDiv, hb, hz]) k
theorem W.cap {e : Nat} {En : Enc α} (hf : Find hs (sl En e A c l) r) (k : l.length ≤ c → W P n o sr ops Q St rest xs hs) : W P n o sr ops Q St rest xs hs :=
  W.fact (φ := l.length ≤ c) (fun w hw => (hw.lift hf.lift).sl_cap.1) k
end
theorem u8_ints : ∀ (zs : List Int), (∀ z ∈ zs, (Lit.int .u8 z).wf = true) → Enc.u8.all (zs.map fun z => UInt8.ofNat z.toNat) = (Enc.int .u8).all zs
  | [], _ => rfl
  | z :: zs, hw => by
    have hz := hw z List.mem_cons_self
    have hz2 : 0 ≤ z ∧ z < 256 := by
      simp [Lit.wf, IntKind.min, IntKind.max, IntKind.signed, IntKind.bits] at hz
      omega
    have ih := u8_ints zs (fun y hy => hw y (List.mem_cons_of_mem _ hy))
    simp only [Enc.all, List.map_cons, List.flatMap_cons] at ih ⊢
    rw [ih]
    congr 2
    have : (UInt8.ofNat z.toNat).toNat = z.toNat := by simp; omega
    rw [this, Int.toNat_of_nonneg hz2.1]
theorem Reads.u8 {R : HProp} {A : Option Addr} {zs : List Int} (h : Reads R (Enc.int .u8) A zs) (hw : ∀ z ∈ zs, (Lit.int .u8 z).wf = true) : Reads R Enc.u8 A (zs.map fun z => UInt8.ofNat z.toNat) := by
  intro f w hf hw'
  rcases h f w hf hw' with h0 | h1
  · subst h0; exact .inl rfl
  · rw [u8_ints zs hw]; exact .inr h1
end Go.SL
namespace Go.SL
class MethodIs (P : Program) (t : TypeId) (name : String) (f : outParam FuncId) : Prop where
  run : ∀ v w, (Go.method (P.types.size + Made.depth) t v name).run P w = .ok (f, v) w
class IfaceTy (P : Program) (t : TypeId) : Prop where
  und : ∃ ms, P.underlying t = some (.interface ms)
def ifaceB (P : Program) (t : TypeId) : Bool := match P.underlying t with | some (.interface _) => true | _ => false
theorem IfaceTy.of {P : Program} {t : TypeId} (h : ifaceB P t = true) : IfaceTy P t := by
  unfold ifaceB at h
  split at h
  · exact ⟨_, by assumption⟩
  · cases h
class NotIface (P : Program) (t : TypeId) : Prop where
  run : ∀ v w, (Instr.makeInterface t v).run P w = .ok (.iface t v) w
theorem evs {xs : Env} {n : Nat} {a : Act} (ha : Ok n xs a) : ∀ (l : List Operand) (vs : List Value), l.map (ev xs) = vs.map some → l.map a.eval = vs := by
  intro l
  induction l with
  | nil => intro vs h; cases vs with
    | nil => rfl
    | cons => cases h
  | cons x l ih => intro vs h; cases vs with
    | nil => cases h
    | cons v vs =>
      simp only [List.map_cons, List.cons.injEq] at h ⊢
      exact ⟨ha.ev h.1, ih vs h.2⟩
section
variable {P : Program} {n : Nat} {o : Outer} {sr : List Tmp} {ops : Array Oper} {Q : Post} {St : List HProp} {rest : List Oper} {xs : Env} {hs : List HProp}
variable {d : Option Tmp} {ty : TypeId} {pos : String} {af : Array Edge}
theorem W.makeIface {t : TypeId} {x : Operand} {v : Value} [hn : NotIface P t] (hx : ev xs x = some v) (hd : fits n d = true) (k : W P n o sr ops Q St rest (put d (.iface t v) xs) hs) :
    W P n o sr ops Q St (⟨d, .makeInterface t x, ty, pos, af, none⟩ :: rest) xs hs :=
  W.val rfl (by simp [kind]) hd (fun a w ha => by
    show ((Instr.makeInterface t (a.eval x)) >>= fun v => pure (Next.value v)).run P w = _
    rw [ha.ev hx, Sem.run_bind, hn.run]; rfl) k
theorem W.ext {f : FuncId} {args : List Value} {xargs : Array Operand} {ats : Array TypeId} {u : Value} (hargs : xargs.toList.map (ev xs) = args.map some) (h : ∀ w, (callFunc f args.toArray).run P w = .ok (.value u) w) (hd : fits n d = true) (hI : Incl St hs)
    (k : W P n o sr ops Q St rest (put d u xs) hs) : W P n o sr ops Q St (⟨d, .call { callee := .value (.func f), args := xargs, argTypes := ats }, ty, pos, af, none⟩ :: rest) xs hs :=
  W.op rfl rfl hd fun a w ha hw => by
    have hargs' : xargs.map a.eval = args.toArray := by
      have h2 := evs ha xargs.toList args hargs
      apply Array.toList_inj.1
      simpa using h2
    refine ⟨u, w, hs, ?_, hw, hI, k⟩
    simp [execOp, resolve, Act.eval, Deferred.ofValue, invoke, h, hargs']
theorem W.invoke {t : TypeId} {name : String} {f : FuncId} {recv : Operand} {v : Value} {args : List Value} {xargs : Array Operand} {ats : Array TypeId} {Pre Rs : List HProp} {q : Value → List HProp → Prop} [hm : MethodIs P t name f] [hc : Callable P f]
    (hs0 : Trip P f (v :: args) Pre q) (hr : ev xs recv = some (.iface t v)) (hargs : xargs.toList.map (ev xs) = args.map some) (he : Ent hs Pre Rs) (hd : fits n d = true) (hI : Incl St Rs)
    (k : ∀ v Ps, q v Ps → W P n o sr ops Q St rest (put d v xs) (Ps ++ Rs)) :
    W P n o sr ops Q St (⟨d, .call { callee := .invoke recv name, args := xargs, argTypes := ats }, ty, pos, af, none⟩ :: rest) xs hs := by
  constructor; intro a w ha hw
  have hargs' : xargs.map a.eval = args.toArray := by
    have h2 := evs ha xargs.toList args hargs
    apply Array.toList_inj.1
    simpa using h2
  rw [wpK, if_pos (by simp [Region.wanted])]
  show Oper.wp P _ a w (fun a w => (freeSt sr ops _ = false → ∀ R ∈ St, SL.holds R w) ∧ wpK P sr ops Q St rest a w) Q
  have hrun : (execOp a.eval ⟨d, .call { callee := .invoke recv name, args := xargs, argTypes := ats }, ty, pos, af, none⟩).run P w = .ok (.enter f (v :: args).toArray) w := by
    simp only [execOp, resolve, ha.ev hr, hargs', Sem.run_bind, Sem.run_pure, Result.andThen_ok, Go.invoke]
    simp [callMethod, hm.run, hc.run]
  simp only [Oper.wp, hrun, Oper.upon_enter]
  refine (hs0.run o w Rs (hw.lift he.lift)).mono ?_
  rintro e w' ⟨v, Ps, rfl, hq, hw'⟩
  exact ⟨fun _ => (hI.app (Ps := Ps)).holds hw', k v Ps hq _ _ (ha.put hd v) hw'⟩
inductive IsNil : Value → Bool → Prop
  | nil : IsNil .nilIface true
  | val (t : TypeId) (u : Value) : IsNil (.iface t u) false
theorem kind_cmp {op : BinOp} {t t2 : TypeId} {x y : Operand} : kind P (.binOp op t x y t2) ≠ .eff := by
  simp only [kind]; split <;> (intro h; cases h)
theorem W.iface_nil {t t2 : TypeId} {x y : Operand} {v : Value} {p : Bool} [ht : IfaceTy P t] (hx : ev xs x = some v) (hv : IsNil v p) (hy : y = .const .nilIface) (hd : fits n d = true)
    (k : W P n o sr ops Q St rest (put d (.bool p) xs) hs) : W P n o sr ops Q St (⟨d, .binOp .eql t x y t2, ty, pos, af, none⟩ :: rest) xs hs :=
  W.val rfl kind_cmp hd (fun a w ha => by
    subst hy
    obtain ⟨ms, hu⟩ := ht.und
    show ((do eqGuard .eql t x (.const .nilIface) (a.eval x) .nilIface; binOp .eql t (a.eval x) .nilIface : Sem Value) >>= fun v => pure (Next.value v)).run P w = _
    rw [ha.ev hx]
    cases hv with
    | nil =>
      have h : ∀ dd : Nat, (Op.equalIn (dd + 1) t .nilIface .nilIface).run P w = .ok true w := fun dd => by simp [Op.equalIn, run_underlying hu]
      simp [eqGuard, binOp, Op.equal, Op.maxDepth, h 9999]
    | val t' u =>
      have h : ∀ dd : Nat, (Op.equalIn (dd + 1) t (.iface t' u) .nilIface).run P w = .ok false w := fun dd => by simp [Op.equalIn, run_underlying hu]
      simp [eqGuard, binOp, Op.equal, Op.maxDepth, h 9999]) k
theorem W.iface_not {t t2 : TypeId} {x y : Operand} {v : Value} {p : Bool} [ht : IfaceTy P t] (hx : ev xs x = some v) (hv : IsNil v p) (hy : y = .const .nilIface) (hd : fits n d = true)
    (k : W P n o sr ops Q St rest (put d (.bool (!p)) xs) hs) : W P n o sr ops Q St (⟨d, .binOp .neq t x y t2, ty, pos, af, none⟩ :: rest) xs hs :=
  W.val rfl kind_cmp hd (fun a w ha => by
    subst hy
    obtain ⟨ms, hu⟩ := ht.und
    show ((do eqGuard .neq t x (.const .nilIface) (a.eval x) .nilIface; binOp .neq t (a.eval x) .nilIface : Sem Value) >>= fun v => pure (Next.value v)).run P w = _
    rw [ha.ev hx]
    cases hv with
    | nil =>
      have h : ∀ dd : Nat, (Op.equalIn (dd + 1) t .nilIface .nilIface).run P w = .ok true w := fun dd => by simp [Op.equalIn, run_underlying hu]
      simp [eqGuard, binOp, Op.equal, Op.maxDepth, h 9999]
    | val t' u =>
      have h : ∀ dd : Nat, (Op.equalIn (dd + 1) t (.iface t' u) .nilIface).run P w = .ok false w := fun dd => by simp [Op.equalIn, run_underlying hu]
      simp [eqGuard, binOp, Op.equal, Op.maxDepth, h 9999]) k
class CmpInt (P : Program) (t : TypeId) (k : outParam IntKind) : Prop where
  und : P.underlying t = some (.int k)
  cmp : ∃ i, P.info? t = some i ∧ i.comparable = true
def cmpIntB (P : Program) (t : TypeId) : Option IntKind := match P.underlying t, P.info? t with | some (.int k), some i => if i.comparable then some k else none | _, _ => none
theorem CmpInt.of {P : Program} {t : TypeId} {k : IntKind} (h : cmpIntB P t = some k) : CmpInt P t k := by
  unfold cmpIntB at h
  split at h
  · rename_i hu hi
    split at h
    · cases h; exact ⟨hu, _, hi, by assumption⟩
    · cases h
  · cases h
end
end Go.SL
namespace Go.SL
theorem Sat.merge {o : Outer} {w : World} {A B C : HProp} {r : List HProp} (h : Sat o w (A :: B :: r))
    (k : ∀ f g, A f → B g → Compat f g → ∃ h, C h ∧ ∀ b x, h b = some x → ∃ y, (f b = some y ∨ g b = some y) ∧ x.2 = y.2 ∧ (y.1 = true → x.1 = true)) : Sat o w (C :: r) := by
  obtain ⟨ho, l, h1, h2, h3⟩ := h
  match l, h1 with
  | p :: q :: l, h1 =>
    simp only [List.map_cons, List.cons.injEq] at h1
    simp only [List.pairwise_cons, List.mem_cons, forall_eq_or_imp] at h3
    obtain ⟨hp1, hp2⟩ := h2 p (by simp)
    obtain ⟨hq1, hq2⟩ := h2 q (by simp)
    obtain ⟨f, hC, hf⟩ := k p.2 q.2 (h1.1 ▸ hp1) (h1.2.1 ▸ hq1) h3.1.1
    refine ⟨ho, (C, f) :: l, by simp [h1.2.2], fun s hs => ?_, ?_⟩
    · rcases List.mem_cons.1 hs with e | hs
      · subst e
        refine ⟨hC, fun b x hb => ?_⟩
        obtain ⟨y, hy, hxy, _⟩ := hf b x hb
        rw [hxy]; exact hy.elim (hp2 b y) (hq2 b y)
      · exact h2 s (by simp [hs])
    · rw [List.pairwise_cons]
      refine ⟨fun s hs b x z hx hz => ?_, h3.2.2⟩
      obtain ⟨y, hy, hxy, hfr⟩ := hf b x hx
      have : y.1 = true ∧ y = z := hy.elim (fun hy => h3.1.2 s hs b y z hy hz) (fun hy => h3.2.1 s hs b y z hy hz)
      exact ⟨hfr this.1, by rw [← this.2]; exact Prod.ext ((hfr this.1).trans this.1.symm) hxy⟩
def Fro (f : Hp) : Prop := ∀ b x, f b = some x → x.1 = true
theorem Sat.opened {o : Outer} {w : World} {α : Type} {A : HProp} {B : α → HProp} {r : List HProp} (h : Sat o w (A :: r)) (k : ∀ f, A f → ∃ x, B x f) : ∃ x, Sat o w (B x :: r) := by
  obtain ⟨ho, l, h1, h2, h3⟩ := h
  match l, h1 with
  | p :: l, h1 =>
    simp only [List.map_cons, List.cons.injEq] at h1
    have hp := (h2 p List.mem_cons_self)
    obtain ⟨x, hx⟩ := k p.2 (h1.1 ▸ hp.1)
    refine ⟨x, ho, (B x, p.2) :: l, by simp [h1.2], fun q hq => ?_, ?_⟩
    · rcases List.mem_cons.1 hq with e | hq
      · subst e; exact ⟨hx, hp.2⟩
      · exact h2 q (List.mem_cons_of_mem _ hq)
    · rw [List.pairwise_cons] at h3 ⊢; exact h3
section
variable {P : Program} {n : Nat} {o : Outer} {sr : List Tmp} {ops : Array Oper} {Q : Post} {St : List HProp} {rest : List Oper} {xs : Env} {hs hs' : List HProp}
theorem W.turn (h : ∀ w, Sat o w hs → Sat o w hs') (k : W P n o sr ops Q St rest xs hs') : W P n o sr ops Q St rest xs hs := ⟨fun a w ha hw => k a w ha (h w hw)⟩
theorem W.ex {α : Type} {hx : α → List HProp} (h : ∀ w, Sat o w hs → ∃ x, Sat o w (hx x)) (k : ∀ x, W P n o sr ops Q St rest xs (hx x)) : W P n o sr ops Q St rest xs hs := ⟨fun a w ha hw => by obtain ⟨x, hx⟩ := h w hw; exact (k x).run a w ha hx⟩
theorem C.ex {α : Type} {c : Code} {hx : α → List HProp} (h : ∀ w, Sat o w hs → ∃ x, Sat o w (hx x)) (k : ∀ x, C P n o Q c xs (hx x)) : C P n o Q c xs hs := ⟨fun a w ha hw => by obtain ⟨x, hx⟩ := h w hw; exact (k x).run a w ha hx⟩
theorem C.turn {c : Code} (h : ∀ w, Sat o w hs → Sat o w hs') (k : C P n o Q c xs hs') : C P n o Q c xs hs := ⟨fun a w ha hw => k a w ha (h w hw)⟩
theorem E.turn {e : Exit} (h : ∀ w, Sat o w hs → Sat o w hs') (k : E n o Q e xs hs') : E n o Q e xs hs := ⟨fun a w ha hw => k a w ha (h w hw)⟩
end
end Go.SL
namespace Go.SL
abbrev Hdr := Option Addr × Nat × Nat
abbrev Hdr.v (h : Hdr) : Value := .slice h.1 h.2.1 h.2.2
@[reducible] def Enc.hdr : Enc Hdr := ⟨1, fun h => [.slice h.1 h.2.1 h.2.2], fun _ => rfl, fun x v h => by simp at h; subst h; rfl, by decide⟩
section
variable {α : Type}
def SeqIn (E : Enc α) (f : Hp) (h : Hdr) (x : List α) : Prop :=
  h.2.1 = x.length ∧ x.length ≤ h.2.2 ∧ (x = [] ∨ ∃ g off cs T fr, h.1 = some ⟨g, off, none⟩ ∧ f g = some (true, .cells cs T fr) ∧ ∀ (i : Nat) (v : Value), (E.all x)[i]? = some v → cs[off + i]? = some v)
theorem SeqIn.mono {E : Enc α} {f g : Hp} {h : Hdr} {x : List α} (k : SeqIn E f h x) (hm : ∀ b y, f b = some y → g b = some y) : SeqIn E g h x := by
  obtain ⟨h1, h2, h3⟩ := k
  refine ⟨h1, h2, h3.imp id ?_⟩
  rintro ⟨b, off, cs, T, fr, ha, hb, hc⟩
  exact ⟨b, off, cs, T, fr, ha, hm _ _ hb, hc⟩
inductive All2 (R : Hdr → List α → Prop) : List Hdr → List (List α) → Prop
  | nil : All2 R [] []
  | cons {h : Hdr} {x : List α} {hs : List Hdr} {xs : List (List α)} : R h x → All2 R hs xs → All2 R (h :: hs) (x :: xs)
theorem All2.mono {R S : Hdr → List α → Prop} {hs : List Hdr} {xs : List (List α)} (k : All2 R hs xs) (hm : ∀ h x, R h x → S h x) : All2 S hs xs := by
  induction k with
  | nil => exact .nil
  | cons h _ ih => exact .cons (hm _ _ h) ih
theorem All2.len {R : Hdr → List α → Prop} {hs : List Hdr} {xs : List (List α)} (k : All2 R hs xs) : hs.length = xs.length := by
  induction k with
  | nil => rfl
  | cons _ _ ih => simp [ih]
theorem All2.append {R : Hdr → List α → Prop} {hs hs' : List Hdr} {xs xs' : List (List α)} (k : All2 R hs xs) (k' : All2 R hs' xs') : All2 R (hs ++ hs') (xs ++ xs') := by
  induction k with
  | nil => exact k'
  | cons h _ ih => exact .cons h ih
theorem All2.get {R : Hdr → List α → Prop} {hs : List Hdr} {xs : List (List α)} (k : All2 R hs xs) : ∀ (i : Nat) (h : Hdr) (x : List α), hs[i]? = some h → xs[i]? = some x → R h x := by
  induction k with
  | nil => intro i h x hh; simp at hh
  | cons hr _ ih =>
    intro i h x hh hx
    cases i with
    | zero => simp at hh hx; subst hh hx; exact hr
    | succ i => exact ih i h x (by simpa using hh) (by simpa using hx)
theorem All2.set {R : Hdr → List α → Prop} {hs : List Hdr} {xs : List (List α)} (k : All2 R hs xs) {h : Hdr} {x : List α} (hr : R h x) : ∀ (i : Nat), All2 R (hs.set i h) (xs.set i x) := by
  induction k with
  | nil => intro i; exact .nil
  | cons h' k' ih =>
    intro i
    cases i with
    | zero => exact .cons hr k'
    | succ i => exact .cons h' (ih i)
theorem All2.same {R : Hdr → List α → Prop} {h : Hdr} {x : List α} (hr : R h x) : ∀ n, All2 R (List.replicate n h) (List.replicate n x)
  | 0 => .nil
  | n + 1 => .cons hr (All2.same hr n)
theorem All2.take {R : Hdr → List α → Prop} {hs : List Hdr} {xs : List (List α)} (k : All2 R hs xs) : ∀ n, All2 R (hs.take n) (xs.take n) := by
  induction k with
  | nil => intro n; simp; exact .nil
  | cons h _ ih =>
    intro n
    cases n with
    | zero => exact .nil
    | succ n => exact .cons h (ih n)
variable {E : Enc α} {o : Outer} {w : World} {r : List HProp} {hs hs' : List Hdr} {xs xs' : List (List α)} {h : Hdr} {x : List α}
theorem Sat.join {A B C : HProp} (k : Sat o w (A :: B :: r)) (hA : ∀ f, A f → Fro f) (hB : ∀ f, B f → Fro f)
    (hC : ∀ f g u, A f → B g → Fro u → (∀ b y, f b = some y → u b = some y) → (∀ b y, g b = some y → u b = some y) → C u) : Sat o w (C :: r) := by
  refine k.merge ?_
  intro f g hf hg hc
  have hfr : Fro fun b => (f b).or (g b) := by
    intro b y hb
    simp only [Option.or_eq_some_iff] at hb
    rcases hb with hb | ⟨_, hb⟩
    · exact hA f hf b y hb
    · exact hB g hg b y hb
  refine ⟨fun b => (f b).or (g b), hC f g _ hf hg hfr (fun b y hb => by simp [hb]) (fun b y hb => ?_), fun b y hb => ?_⟩
  · cases hfb : f b with
    | none => simp [hb]
    | some z => have := (hc b z y hfb hb).2; subst this; simp
  · simp only [Option.or_eq_some_iff] at hb
    rcases hb with hb | ⟨_, hb⟩
    · exact ⟨y, .inl hb, rfl, id⟩
    · exact ⟨y, .inr hb, rfl, id⟩
end
end Go.SL
namespace Go.SL
section
variable {P : Program} {n : Nat} {o : Outer} {sr : List Tmp} {ops : Array Oper} {Q : Post} {St : List HProp} {rest : List Oper} {xs : Env} {hs : List HProp}
variable {d : Option Tmp} {ty : TypeId} {pos : String} {af : Array Edge} {α : Type}
theorem W.agg_of {t b i m : Nat} {x : Operand} {vs : List Value} [h1 : AggTy P t m] (hx : ev xs x = some (.pointer (some ⟨b, i, none⟩))) (hm : vs.length = m) (hc : ∀ w, Sat o w hs → ∀ (j : Nat) (v : Value), vs[j]? = some v → w.cell? ⟨b, i + j, none⟩ = some v)
    (hns : stbD sr d = false) (hd : fits n d = true) (k : W P n o sr ops Q St rest (put d (.agg vs.toArray) xs) hs) : W P n o sr ops Q St (⟨d, .load t x, ty, pos, af, none⟩ :: rest) xs hs :=
  W.read rfl (by simp [kind]) hns hd (fun a w ha hw => by
    show ((Instr.loadAt t (a.eval x)) >>= fun v => pure (Next.value v)).run P w = _
    have := run_loadCells (P := P) (w := w) b i vs (hc w hw)
    rw [hm] at this
    rw [ha.ev hx, Sem.run_bind]
    simp [Instr.loadAt, Instr.sureAddr, loadVar, h1.agg, h1.size, this]) k
theorem W.agg {t b i T m : Nat} {x : Operand} {vs cs : List Value} {r : List HProp} [h1 : AggTy P t m] (hx : ev xs x = some (.pointer (some ⟨b, i, none⟩))) (hf : Find hs (blk b T cs) r) (hv : (cs.drop i).take m = vs) (hm : vs.length = m)
    (hns : stbD sr d = false) (hd : fits n d = true) (k : W P n o sr ops Q St rest (put d (.agg vs.toArray) xs) hs) : W P n o sr ops Q St (⟨d, .load t x, ty, pos, af, none⟩ :: rest) xs hs :=
  W.agg_of hx hm (fun w hw j v hj => (hw.lift hf.lift).blk_cell (by
    subst hv
    rw [List.getElem?_take] at hj
    split at hj
    · rwa [List.getElem?_drop] at hj
    · cases hj)) hns hd k
theorem W.store_agg {t b i T m : Nat} {x y : Operand} {vs cs cs' : List Value} {r : List HProp} [h1 : AggTy P t m] (hx : ev xs x = some (.pointer (some ⟨b, i, none⟩))) (hy : ev xs y = some (.agg vs.toArray)) (hm : vs.length = m) (h0 : vs.all (·.oneCell') = true)
    (hf : Find hs (blk b T cs) r) (hi : Nat.ble (i + vs.length) cs.length = true) (hset : setAll cs i vs = cs') (hI : Keep (freeSt sr ops ⟨none, .store t x y, ty, pos, af, none⟩) St (blk b T cs' :: r)) (k : W P n o sr ops Q St rest xs (blk b T cs' :: r)) :
    W P n o sr ops Q St (⟨none, .store t x y, ty, pos, af, none⟩ :: rest) xs hs :=
  W.op_skip rfl rfl rfl fun a w ha hw => by
    have hw' := hw.lift hf.lift
    obtain ⟨w', hrun, hs'⟩ := Sat.storeCells (P := P) (off := i) vs 0 cs w hw' (by have := Nat.le_of_ble_eq_true hi; omega) (fun v hv => List.all_eq_true.1 h0 v hv)
    rw [Nat.add_zero, hset] at hs'
    refine ⟨w', _, ?_, hs', hI, k⟩
    show ((Instr.storeAt t (a.eval x) (a.eval y)) >>= fun _ => pure Next.skip).run P w = _
    rw [ha.ev hx, ha.ev hy, Sem.run_bind]
    simp [Instr.storeAt, Instr.sureAddr, storeVar, h1.size, Value.cells, hm, hrun]
theorem setAll_set (pre old post : List Value) (vs : List Value) (h : old.length = vs.length) : setAll (pre ++ old ++ post) pre.length vs = pre ++ vs ++ post := setAll_mid pre old post vs h
theorem Enc.all_put (E : Enc α) (l : List α) (i : Nat) (y : α) (hi : i < l.length) : ∃ p q old, E.all l = p ++ old ++ q ∧ p.length = i * E.sz ∧ old.length = E.sz ∧ E.all (l.set i y) = p ++ E.f y ++ q := by
  refine ⟨E.all (l.take i), E.all (l.drop (i + 1)), E.f l[i], ?_, ?_, E.len _, ?_⟩
  · have : l = l.take i ++ [l[i]] ++ l.drop (i + 1) := by simp
    conv => lhs; rw [this, E.all_append, E.all_append]
    simp [Enc.all]
  · rw [E.all_length, List.length_take]; congr 1; omega
  · rw [List.set_eq_take_append_cons_drop, if_pos hi, E.all_append]
    simp [Enc.all]
theorem W.store_agg_sl {t e g off p m : Nat} {A : Option Addr} {c : Nat} {l : List α} {r : List HProp} {x y : Operand} {vs : List Value} [h1 : AggTy P t m] (En : Enc α) (i : Nat) (u : α) (hx : ev xs x = some (.pointer (some ⟨g, p, none⟩))) (hy : ev xs y = some (.agg vs.toArray))
    (hf : Find hs (sl En e (some ⟨g, off, none⟩) c l) r) (hp : p = off + i * En.sz) (hi : i < l.length) (hu : En.f u = vs) (hm : En.sz = m)
    (hI : Keep (freeSt sr ops ⟨none, .store t x y, ty, pos, af, none⟩) St (sl En e (some ⟨g, off, none⟩) c (l.set i u) :: r)) (k : W P n o sr ops Q St rest xs (sl En e (some ⟨g, off, none⟩) c (l.set i u) :: r)) :
    W P n o sr ops Q St (⟨none, .store t x y, ty, pos, af, none⟩ :: rest) xs hs :=
  W.op_skip rfl rfl rfl fun a w ha hw => by
    have hw' := hw.lift hf.lift
    rcases hw'.sl_open with ⟨hn, _⟩ | ⟨g', pre, spare, hA, hl, hc, hsat⟩
    · cases hn
    simp only [Option.some.injEq, Addr.mk.injEq, and_true] at hA
    obtain ⟨rfl, rfl⟩ := hA
    obtain ⟨pp, qq, old, ha1, ha2, ha3, ha4⟩ := En.all_put l i u hi
    have hlen : vs.length = En.sz := by rw [← hu, En.len]
    have hsplit : pre ++ En.all l ++ spare = (pre ++ pp) ++ old ++ (qq ++ spare) := by rw [ha1]; simp
    rw [hsplit] at hsat
    obtain ⟨w', hrun, hs'⟩ := Sat.storeCells (P := P) (off := p) vs 0 _ w hsat (by simp only [List.length_append]; omega) (fun v hv => En.one u v (by rw [hu]; exact hv))
    rw [Nat.add_zero, show p = (pre ++ pp).length from by rw [List.length_append, ha2, hp], setAll_set _ _ _ _ (by rw [ha3, hlen])] at hs'
    have hback : (pre ++ pp) ++ vs ++ (qq ++ spare) = pre ++ En.all (l.set i u) ++ spare := by rw [ha4, hu]; simp
    rw [hback] at hs'
    refine ⟨w', _, ?_, hs'.sl_close (by rw [En.all_length, List.length_set, ← En.all_length]; exact hl) hc, hI, k⟩
    show ((Instr.storeAt t (a.eval x) (a.eval y)) >>= fun _ => pure Next.skip).run P w = _
    rw [ha.ev hx, ha.ev hy, Sem.run_bind]
    simp [Instr.storeAt, Instr.sureAddr, storeVar, h1.size, Value.cells, hlen, hm, hrun]
theorem W.one {A C : HProp} {r : List HProp} (hA : Find hs A r) (t : ∀ w, Sat o w (A :: r) → Sat o w (C :: r)) (k : W P n o sr ops Q St rest xs (C :: r)) : W P n o sr ops Q St rest xs hs :=
  W.turn (fun w hw => t w (hw.lift hA.lift)) k
theorem W.two {A B C : HProp} {r r2 : List HProp} (hA : Find hs A r) (hB : Find r B r2) (t : ∀ w, Sat o w (A :: B :: r2) → Sat o w (C :: r2)) (k : W P n o sr ops Q St rest xs (C :: r2)) : W P n o sr ops Q St rest xs hs :=
  W.turn (fun w hw => t w ((hw.lift hA.lift).lift (hB.lift.cons _))) k
theorem W.slice_nil {t t2 e sz by_ : Nat} {x y : Operand} {A : Option Addr} {m c : Nat} [ht : SliceTy P t e sz by_] (hx : ev xs x = some (.slice A m c)) (hy : ev xs y = some (.slice none 0 0)) (hd : fits n d = true)
    (k : W P n o sr ops Q St rest (put d (.bool A.isNone) xs) hs) : W P n o sr ops Q St (⟨d, .binOp .eql t x y t2, ty, pos, af, none⟩ :: rest) xs hs :=
  W.val rfl (by simp only [kind]; split <;> (intro h; cases h)) hd (fun ac w ha => by
    have h1 := Go.run_eql_slice_nil (P := P) w t e A m c ht.und
    show ((do eqGuard .eql t x y (ac.eval x) (ac.eval y); binOp .eql t (ac.eval x) (ac.eval y) : Sem Value) >>= fun v => pure (Next.value v)).run P w = _
    rw [ha.ev hx, ha.ev hy, Sem.run_bind, Sem.run_bind, show eqGuard .eql t x y (.slice A m c) (.slice none 0 0) = pure () from rfl, Sem.run_pure, Result.andThen_ok, h1]
    rfl) k
theorem W.slice_not {t t2 e sz by_ : Nat} {x y : Operand} {A : Option Addr} {m c : Nat} [ht : SliceTy P t e sz by_] (hx : ev xs x = some (.slice A m c)) (hy : ev xs y = some (.slice none 0 0)) (hd : fits n d = true)
    (k : W P n o sr ops Q St rest (put d (.bool (!A.isNone)) xs) hs) : W P n o sr ops Q St (⟨d, .binOp .neq t x y t2, ty, pos, af, none⟩ :: rest) xs hs :=
  W.val rfl (by simp only [kind]; split <;> (intro h; cases h)) hd (fun ac w ha => by
    have h2 := Go.run_neq_slice_nil (P := P) w t e A m c ht.und
    show ((do eqGuard .neq t x y (ac.eval x) (ac.eval y); binOp .neq t (ac.eval x) (ac.eval y) : Sem Value) >>= fun v => pure (Next.value v)).run P w = _
    rw [ha.ev hx, ha.ev hy, Sem.run_bind, Sem.run_bind, show eqGuard .neq t x y (.slice A m c) (.slice none 0 0) = pure () from rfl, Sem.run_pure, Result.andThen_ok, h2]
    rfl) k
class BoolTy (P : Program) (t : TypeId) : Prop where
  und : P.underlying t = some .bool
theorem run_equal_bool {t : TypeId} [ht : BoolTy P t] (a b : Bool) (w : World) : (Op.equal t (.bool a) (.bool b)).run P w = .ok (a == b) w := by
  have h : ∀ dd : Nat, (Op.equalIn (dd + 1) t (.bool a) (.bool b)).run P w = .ok (a == b) w := fun dd => by simp [Op.equalIn, run_underlying ht.und]
  simp [Op.equal, Op.maxDepth, h 9999]
theorem W.bool_eq {t t2 : TypeId} {x y : Operand} {a b : Bool} [ht : BoolTy P t] (hx : ev xs x = some (.bool a)) (hy : ev xs y = some (.bool b)) (hd : fits n d = true)
    (k : W P n o sr ops Q St rest (put d (.bool (a == b)) xs) hs) : W P n o sr ops Q St (⟨d, .binOp .eql t x y t2, ty, pos, af, none⟩ :: rest) xs hs :=
  W.val rfl (by simp only [kind]; split <;> (intro h; cases h)) hd (fun ac w ha => by
    show ((do eqGuard .eql t x y (ac.eval x) (ac.eval y); binOp .eql t (ac.eval x) (ac.eval y) : Sem Value) >>= fun v => pure (Next.value v)).run P w = _
    rw [ha.ev hx, ha.ev hy, Sem.run_bind, Sem.run_bind, show eqGuard .eql t x y (.bool a) (.bool b) = pure () from rfl, Sem.run_pure, Result.andThen_ok]
    simp [binOp, run_equal_bool]) k
theorem W.bool_ne {t t2 : TypeId} {x y : Operand} {a b : Bool} [ht : BoolTy P t] (hx : ev xs x = some (.bool a)) (hy : ev xs y = some (.bool b)) (hd : fits n d = true)
    (k : W P n o sr ops Q St rest (put d (.bool (a != b)) xs) hs) : W P n o sr ops Q St (⟨d, .binOp .neq t x y t2, ty, pos, af, none⟩ :: rest) xs hs :=
  W.val rfl (by simp only [kind]; split <;> (intro h; cases h)) hd (fun ac w ha => by
    show ((do eqGuard .neq t x y (ac.eval x) (ac.eval y); binOp .neq t (ac.eval x) (ac.eval y) : Sem Value) >>= fun v => pure (Next.value v)).run P w = _
    rw [ha.ev hx, ha.ev hy, Sem.run_bind, Sem.run_bind, show eqGuard .neq t x y (.bool a) (.bool b) = pure () from rfl, Sem.run_pure, Result.andThen_ok]
    simp [binOp, run_equal_bool, bne]) k
end
end Go.SL
namespace Go.SL
def bk (A : Option Addr) : Nat := match A with | some a => a.block | none => 0
def of (A : Option Addr) : Nat := match A with | some a => a.off | none => 0
def CellAt (R : HProp) (b i : Nat) (v : Value) : Prop := ∀ f w, R f → Holds w f → w.cell? ⟨b, i, none⟩ = some v
class Cel (R : HProp) (b i : Nat) (v : outParam Value) : Prop where
  cell : CellAt R b i v
class Rd {α : outParam Type} (R : HProp) (En : outParam (Enc α)) (A : Option Addr) (l : outParam (List α)) : Prop where
  reads : Reads R En A l
inductive FindC : List HProp → HProp → Nat → Nat → Value → Prop
  | here {R : HProp} {r : List HProp} {b i : Nat} {v : Value} (h : CellAt R b i v) : FindC (R :: r) R b i v
  | there {R S : HProp} {r : List HProp} {b i : Nat} {v : Value} (h : FindC r R b i v) : FindC (S :: r) R b i v
inductive FindS {α : Type} : List HProp → HProp → Enc α → Option Addr → List α → Prop
  | here {R : HProp} {r : List HProp} {En : Enc α} {A : Option Addr} {l : List α} (h : Reads R En A l) : FindS (R :: r) R En A l
  | there {R S : HProp} {r : List HProp} {En : Enc α} {A : Option Addr} {l : List α} (h : FindS r R En A l) : FindS (S :: r) R En A l
theorem FindC.mem {hs : List HProp} {R : HProp} {b i : Nat} {v : Value} (h : FindC hs R b i v) : (∃ r, Find hs R r) ∧ CellAt R b i v := by
  induction h with
  | here h => exact ⟨⟨_, .here⟩, h⟩
  | there _ ih => obtain ⟨⟨r, hr⟩, h⟩ := ih; exact ⟨⟨_, .there hr⟩, h⟩
theorem FindS.mem {α : Type} {hs : List HProp} {R : HProp} {En : Enc α} {A : Option Addr} {l : List α} (h : FindS hs R En A l) : (∃ r, Find hs R r) ∧ Reads R En A l := by
  induction h with
  | here h => exact ⟨⟨_, .here⟩, h⟩
  | there _ ih => obtain ⟨⟨r, hr⟩, h⟩ := ih; exact ⟨⟨_, .there hr⟩, h⟩
theorem reads_bk {α : Type} {R : HProp} {En : Enc α} {A : Option Addr} {l : List α} (h : Reads R En A l) {f : Hp} {w : World} (hf : R f) (hw : Holds w f) :
    l = [] ∨ (A = some ⟨bk A, of A, none⟩ ∧ ∀ i v, (En.all l)[i]? = some v → w.cell? ⟨bk A, of A + i, none⟩ = some v) := by
  rcases h f w hf hw with h0 | ⟨g, off, rfl, hc⟩
  · exact .inl h0
  · exact .inr ⟨rfl, hc⟩
theorem reads_cell {α : Type} {R : HProp} {En : Enc α} {A : Option Addr} {l : List α} (h : Reads R En A l) {i j : Nat} {y : α} {v : Value} (hy : l[i]? = some y) (hv : (En.f y)[j]? = some v) :
    CellAt R (bk A) (of A + (i * En.sz + j)) v := by
  intro f w hf hw
  rcases reads_bk h hf hw with h0 | ⟨_, hc⟩
  · subst h0; cases hy
  · exact hc _ _ (En.all_get l i j y v hy hv)
theorem blk_cellAt {b T i : Nat} {cs : List Value} {v : Value} (hv : cs[i]? = some v) : CellAt (blk b T cs) b i v := by
  rintro f w ⟨fr, _, rfl⟩ hf
  have hb := hf b _ (one_self _ _)
  simp [World.cell?, hb, hv]
class ArrTy (P : Program) (t : TypeId) (L e sz : outParam Nat) : Prop where
  und : P.underlying t = some (.array L e)
  info : ∃ i, P.info? e = some i ∧ i.size = sz
def arrB (P : Program) (t : TypeId) : Option (Nat × Nat × Nat) := match P.underlying t with
  | some (.array L e) => match P.info? e with
    | some i => some (L, e, i.size)
    | none => none
  | _ => none
theorem ArrTy.of {P : Program} {t L e sz : Nat} (h : arrB P t = some (L, e, sz)) : ArrTy P t L e sz := by
  unfold arrB at h
  split at h
  · rename_i L' e' hu
    split at h
    · rename_i i hi
      simp only [Option.some.injEq, Prod.mk.injEq] at h
      obtain ⟨rfl, rfl, rfl⟩ := h
      exact ⟨hu, i, hi, rfl⟩
    · cases h
  · cases h
section
variable {P : Program} {n : Nat} {o : Outer} {sr : List Tmp} {ops : Array Oper} {Q : Post} {St : List HProp} {rest : List Oper} {xs : Env} {hs : List HProp}
variable {d : Option Tmp} {ty : TypeId} {pos : String} {af : Array Edge} {α : Type} {En : Enc α} {A : Option Addr} {l : List α} {R : HProp}
theorem W.ix {t e sz by_ m c q : Nat} {x ix : Operand} {i : Int} {kd : IntKind} [ht : SliceTy P t e sz by_] (hx : ev xs x = some (.slice A m c)) (hi : ev xs ix = some (.int kd i))
    (hf : FindS hs R En A l) (hm : m = l.length) (hsz : En.sz = sz) (h0 : 0 ≤ i) (h1 : i < m) (hq : i.toNat = q) (hd : fits n d = true)
    (k : W P n o sr ops Q St rest (put d (.pointer (some ⟨bk A, of A + q * sz, none⟩)) xs) hs) :
    W P n o sr ops Q St (⟨d, .indexAddr t x ix, ty, pos, af, none⟩ :: rest) xs hs := by
  obtain ⟨⟨r, hfr⟩, hR⟩ := hf.mem
  subst hm hsz hq
  exact W.index (En := En) hx hi hfr hR h0 h1 hd (fun g off hA => by subst hA; exact k)
theorem run_arr {P : Program} {t L e sz b p : Nat} {i : Int} {kd : IntKind} {w : World} [ht : ArrTy P t L e sz] (h0 : 0 ≤ i) (h1 : i < L) : (Instr.indexAt t (.pointer (some ⟨b, p, none⟩)) (.int kd i)).run P w = .ok (.pointer (some ⟨b, p + i.toNat * sz, none⟩)) w := by
  obtain ⟨inf, hi2, hsz⟩ := ht.info
  simp [Instr.indexAt, asIntOf, run_underlying ht.und, h0, h1, sizeOf, typeInfo, hi2, hsz, add_off, Instr.sureAddr]
theorem W.ixe {t L e sz b p q j j' : Nat} {x ix : Operand} {i : Int} {kd : IntKind} [ht : ArrTy P t L e sz] (hx : ev xs x = some (.pointer (some ⟨b, p + j, none⟩))) (hi : ev xs ix = some (.int kd i)) (h0 : 0 ≤ i) (h1 : i < L) (hq : i.toNat = q) (hj : j + q * sz = j')
    (hns : stbD sr d = false) (hd : fits n d = true) (k : W P n o sr ops Q St rest (put d (.pointer (some ⟨b, p + j', none⟩)) xs) hs) : W P n o sr ops Q St (⟨d, .indexAddr t x ix, ty, pos, af, none⟩ :: rest) xs hs := by
  subst hq hj
  refine W.read rfl (by simp [kind, ht.und]) hns hd (fun a w ha hw => ?_) k
  show ((Instr.indexAt t (a.eval x) (a.eval ix)) >>= fun v => pure (Next.value v)).run P w = _
  rw [ha.ev hx, ha.ev hi, Sem.run_bind, run_arr (ht := ht) h0 h1]
  simp [Nat.add_assoc]
theorem W.ixe_stay {t L e sz b p q j j' : Nat} {x ix : Operand} {i : Int} {kd : IntKind} {R : HProp} {r : List HProp} [ht : ArrTy P t L e sz] (hx : ev xs x = some (.pointer (some ⟨b, p + j, none⟩))) (hi : ev xs ix = some (.int kd i)) (h0 : 0 ≤ i) (h1 : i < L) (hq : i.toNat = q) (hj : j + q * sz = j')
    (hf : Find hs R r) (hns : stbD sr d = true) (hd : fits n d = true) (k : W P n o sr ops Q (R :: St) rest (put d (.pointer (some ⟨b, p + j', none⟩)) xs) hs) : W P n o sr ops Q St (⟨d, .indexAddr t x ix, ty, pos, af, none⟩ :: rest) xs hs := by
  subst hq hj
  refine W.stay rfl (by simp [kind, ht.und]) hns hd hf (fun a w ha hw => ?_) k
  show ((Instr.indexAt t (a.eval x) (a.eval ix)) >>= fun v => pure (Next.value v)).run P w = _
  rw [ha.ev hx, ha.ev hi, Sem.run_bind, run_arr (ht := ht) h0 h1]
  simp [Nat.add_assoc]
theorem W.ldc {t b i : Nat} {x : Operand} {v : Value} [h1 : One P t] (hx : ev xs x = some (.pointer (some ⟨b, i, none⟩))) (hf : FindC hs R b i v) (hns : stbD sr d = false) (hd : fits n d = true)
    (k : W P n o sr ops Q St rest (put d v xs) hs) : W P n o sr ops Q St (⟨d, .load t x, ty, pos, af, none⟩ :: rest) xs hs := by
  obtain ⟨⟨r, hfr⟩, hc⟩ := hf.mem
  exact W.load_of hx (fun w hw => by obtain ⟨f, hf, hh⟩ := (hw.lift hfr.lift).head; exact hc f w hf hh) hns hd k
theorem W.ldc_stay {t b i : Nat} {x : Operand} {v : Value} [h1 : One P t] (hx : ev xs x = some (.pointer (some ⟨b, i, none⟩))) (hf : FindC hs R b i v) (hns : stbD sr d = true) (hd : fits n d = true)
    (k : W P n o sr ops Q (R :: St) rest (put d v xs) hs) : W P n o sr ops Q St (⟨d, .load t x, ty, pos, af, none⟩ :: rest) xs hs := by
  obtain ⟨⟨r, hfr⟩, hc⟩ := hf.mem
  exact W.stay_of hx hfr (fun w hw => by obtain ⟨f, hf, hh⟩ := hw; exact hc f w hf hh) hns hd k
theorem FindS.cell {hs : List HProp} {i j p sz : Nat} {y : α} {v : Value} (h : FindS hs R En A l) (hsz : En.sz = sz) (hy : l[i]? = some y) (hv : (En.f y)[j]? = some v) (hp : p = of A + (i * sz + j)) : FindC hs R (bk A) p v := by
  subst hsz hp
  induction h with
  | here h => exact .here (reads_cell h hy hv)
  | there _ ih => exact .there (ih hy hv)
theorem W.ld0 {t i sz : Nat} {x : Operand} {y : α} {v : Value} [h1 : One P t] (hx : ev xs x = some (.pointer (some ⟨bk A, of A + i * sz, none⟩))) (hf : FindS hs R En A l) (hsz : En.sz = sz) (hy : l[i]? = some y) (hv : (En.f y)[0]? = some v)
    (hns : stbD sr d = false) (hd : fits n d = true) (k : W P n o sr ops Q St rest (put d v xs) hs) : W P n o sr ops Q St (⟨d, .load t x, ty, pos, af, none⟩ :: rest) xs hs :=
  W.ldc hx (hf.cell hsz hy hv rfl) hns hd k
theorem W.ldj {t i j sz : Nat} {x : Operand} {y : α} {v : Value} [h1 : One P t] (hx : ev xs x = some (.pointer (some ⟨bk A, of A + i * sz + j, none⟩))) (hf : FindS hs R En A l) (hsz : En.sz = sz) (hy : l[i]? = some y) (hv : (En.f y)[j]? = some v)
    (hns : stbD sr d = false) (hd : fits n d = true) (k : W P n o sr ops Q St rest (put d v xs) hs) : W P n o sr ops Q St (⟨d, .load t x, ty, pos, af, none⟩ :: rest) xs hs :=
  W.ldc hx (hf.cell hsz hy hv (Nat.add_assoc ..)) hns hd k
theorem W.ld0_stay {t i sz : Nat} {x : Operand} {y : α} {v : Value} [h1 : One P t] (hx : ev xs x = some (.pointer (some ⟨bk A, of A + i * sz, none⟩))) (hf : FindS hs R En A l) (hsz : En.sz = sz) (hy : l[i]? = some y) (hv : (En.f y)[0]? = some v)
    (hns : stbD sr d = true) (hd : fits n d = true) (k : W P n o sr ops Q (R :: St) rest (put d v xs) hs) : W P n o sr ops Q St (⟨d, .load t x, ty, pos, af, none⟩ :: rest) xs hs :=
  W.ldc_stay hx (hf.cell hsz hy hv rfl) hns hd k
theorem W.ldj_stay {t i j sz : Nat} {x : Operand} {y : α} {v : Value} [h1 : One P t] (hx : ev xs x = some (.pointer (some ⟨bk A, of A + i * sz + j, none⟩))) (hf : FindS hs R En A l) (hsz : En.sz = sz) (hy : l[i]? = some y) (hv : (En.f y)[j]? = some v)
    (hns : stbD sr d = true) (hd : fits n d = true) (k : W P n o sr ops Q (R :: St) rest (put d v xs) hs) : W P n o sr ops Q St (⟨d, .load t x, ty, pos, af, none⟩ :: rest) xs hs :=
  W.ldc_stay hx (hf.cell hsz hy hv (Nat.add_assoc ..)) hns hd k
theorem W.lda {t i j m p sz : Nat} {x : Operand} {y : α} {vs : List Value} [h1 : AggTy P t m] (hx : ev xs x = some (.pointer (some ⟨bk A, p, none⟩))) (hp : p = of A + i * sz + j) (hf : FindS hs R En A l) (hsz : En.sz = sz) (hy : l[i]? = some y)
    (hv : ((En.f y).drop j).take m = vs) (hm : vs.length = m)
    (hns : stbD sr d = false) (hd : fits n d = true) (k : W P n o sr ops Q St rest (put d (.agg vs.toArray) xs) hs) : W P n o sr ops Q St (⟨d, .load t x, ty, pos, af, none⟩ :: rest) xs hs := by
  subst hp hsz
  obtain ⟨⟨r, hfr⟩, hR⟩ := hf.mem
  refine W.agg_of hx hm (fun w hw j' v hj => ?_) hns hd k
  obtain ⟨f, hf', hh⟩ := (hw.lift hfr.lift).head
  have hv' : (En.f y)[j + j']? = some v := by
    rw [← hv, List.getElem?_take] at hj
    split at hj
    · rwa [List.getElem?_drop] at hj
    · cases hj
  rw [Nat.add_assoc, Nat.add_assoc]
  exact reads_cell hR hy hv' f w hf' hh
theorem sl_at {e c : Nat} {o : Outer} {w : World} {r : List HProp} (h : Sat o w (sl En e A c l :: r)) (hl : l ≠ []) : A = some ⟨bk A, of A, none⟩ := by
  obtain ⟨f, hf, hh⟩ := h.head
  rcases hf with ⟨_, _, h0, _⟩ | ⟨g, pre, spare, hA, _⟩
  · exact absurd h0 hl
  · subst hA; rfl
theorem W.st {t e p c i j sz : Nat} {x y : Operand} {v : Value} {u : α} {r : List HProp} [h1 : One P t] (u' : α) (hx : ev xs x = some (.pointer (some ⟨bk A, p, none⟩))) (hy : ev xs y = some v) (h0 : v.oneCell' = true)
    (hf : Find hs (sl En e A c l) r) (hp : p = of A + i * sz + j) (hsz : En.sz = sz) (hu : l[i]? = some u) (hj : Nat.blt j sz = true) (hset : En.f u' = (En.f u).set j v)
    (hI : Keep (freeSt sr ops ⟨none, .store t x y, ty, pos, af, none⟩) St (sl En e A c (l.set i u') :: r)) (k : W P n o sr ops Q St rest xs (sl En e A c (l.set i u') :: r)) :
    W P n o sr ops Q St (⟨none, .store t x y, ty, pos, af, none⟩ :: rest) xs hs := by
  subst hp hsz
  have hj' : j < En.sz := by simpa [Nat.blt_eq] using hj
  refine W.fact (φ := A = some ⟨bk A, of A, none⟩) (fun w hw => sl_at (hw.lift hf.lift) (by rintro rfl; cases hu)) fun hA => ?_
  generalize bk A = g at *
  generalize of A = off at *
  subst hA
  exact W.store_sl En i j u u' hx hy h0 hf (by rw [Nat.add_assoc]) hu hj' hset hI k
theorem W.sta {t e p c i m sz : Nat} {x y : Operand} {vs : List Value} {r : List HProp} [h1 : AggTy P t m] (u' : α) (hx : ev xs x = some (.pointer (some ⟨bk A, p, none⟩))) (hy : ev xs y = some (.agg vs.toArray))
    (hf : Find hs (sl En e A c l) r) (hp : p = of A + i * sz) (hsz : En.sz = sz) (hi : i < l.length) (hset : En.f u' = vs) (hm : En.sz = m)
    (hI : Keep (freeSt sr ops ⟨none, .store t x y, ty, pos, af, none⟩) St (sl En e A c (l.set i u') :: r)) (k : W P n o sr ops Q St rest xs (sl En e A c (l.set i u') :: r)) :
    W P n o sr ops Q St (⟨none, .store t x y, ty, pos, af, none⟩ :: rest) xs hs := by
  subst hp hsz
  refine W.fact (φ := A = some ⟨bk A, of A, none⟩) (fun w hw => sl_at (hw.lift hf.lift) (by rintro rfl; simp at hi)) fun hA => ?_
  generalize bk A = g at *
  generalize of A = off at *
  subst hA
  exact W.store_agg_sl (A := none) En i u' hx hy hf rfl hi hset hm hI k
theorem Ok.learn {n : Nat} {xs : Env} {a : Act} (h : Ok n xs a) {t : Tmp} {v : Value} (ht : SL.get xs t = some v) : Ok n ((t, v) :: xs) a := by
  refine ⟨h.size, h.defers, fun s u hu => ?_⟩
  simp only [SL.get] at hu
  by_cases e : t = s
  · subst e
    simp only [Nat.beq_refl, cond_true, Option.some.injEq] at hu
    subst hu; exact h.get _ _ ht
  · have hne : Nat.beq t s = false := by rw [← Bool.not_eq_true, Nat.beq_eq]; exact e
    rw [hne, cond_false] at hu
    exact h.get _ _ hu
theorem W.guard_b {op : Op} {j : Nat} {want b : Bool} {t : Tmp} (hj : (ops[j]?).bind (·.dst) = some t) (hb : get xs t = some (.bool b)) (hd : fits n d = true)
    (k1 : b = want → W P n o sr ops Q St (⟨d, op, ty, pos, af, none⟩ :: rest) ((t, .bool want) :: xs) hs)
    (k2 : b = (!want) → W P n o sr ops Q St rest (put d undef ((t, .bool (!want)) :: xs)) hs) : W P n o sr ops Q St (⟨d, op, ty, pos, af, some (j, want)⟩ :: rest) xs hs := by
  constructor; intro a w ha hw
  by_cases h : b = want
  · subst h
    exact W.guard_yes hj (by simp [SL.get]) (k1 rfl) a w (ha.learn hb) hw
  · have h' : b = !want := by cases b <;> cases want <;> simp_all
    subst h'
    exact W.guard_no hj (b := !want) (by simp [SL.get]) rfl hd (k2 rfl) a w (ha.learn hb) hw
theorem C.cond_b {t : Tmp} {x y : Code} {b : Bool} (hc : get xs t = some (.bool b)) (ht : b = true → C P n o Q x ((t, .bool true) :: xs) hs) (hf : b = false → C P n o Q y ((t, .bool false) :: xs) hs) : C P n o Q (.cond (.tmp t) x y) xs hs :=
  C.cond (b := b) hc (fun e => by subst e; exact ⟨fun a w ha hw => ht rfl a w (ha.learn hc) hw⟩) (fun e => by subst e; exact ⟨fun a w ha hw => hf rfl a w (ha.learn hc) hw⟩)
theorem wrap64 {a : Int} (h1 : -9223372036854775808 ≤ a) (h2 : a ≤ 9223372036854775807) : IntKind.i64.wrap a = a := IntWalk.i64_in _ ⟨h1, h2⟩
theorem wrapu {a : Int} {k : IntKind} (hk : k.signed = false) (h1 : 0 ≤ a) (h2 : a < 2 ^ k.bits) : k.wrap a = a := by
  simp only [IntKind.wrap, hk, Bool.false_eq_true, if_false, Bool.false_and]
  first | exact Int.emod_eq_of_lt h1 h2 | (simp; exact Int.emod_eq_of_lt h1 h2)
theorem W.cv {src dst : TypeId} {x : Operand} {ks kd k2 : IntKind} {a b : Int} [hs0 : IntTy P src ks] [ht : IntTy P dst k2] (hx : ev xs x = some (.int kd a)) (hb : k2.wrap a = b) (hd : fits n d = true)
    (k : W P n o sr ops Q St rest (put d (.int k2 b) xs) hs) : W P n o sr ops Q St (⟨d, .convert src dst x, ty, pos, af, none⟩ :: rest) xs hs :=
  W.conv_int hs0.und hx hb hd k
end
end Go.SL
namespace Go.SL
inductive FK
  | i (k : IntKind)
  | b
  | s
def fkOf (P : Program) (t : TypeId) : Option FK :=
  match P.underlying t with
  | some (.int k) => some (.i k)
  | some .bool => some .b
  | some .string => some .s
  | _ => none
def fldsB (P : Program) : Nat → List Field → Option (List FK)
  | _, [] => some []
  | off, f :: fs =>
    if f.name ≠ "_" ∧ f.offset = off ∧ oneB P f.type = true then
      match fkOf P f.type, fldsB P (off + 1) fs with
      | some k, some ks => some (k :: ks)
      | _, _ => none
    else none
def flatB (P : Program) (t : TypeId) : Option (List FK) :=
  match P.underlying t with
  | some (.struct fs) => if P.stoodInHeld t = false ∧ P.eqGuardType P.depth t = false then fldsB P 0 fs.toList else none
  | _ => none
class FlatTy (P : Program) (t : TypeId) (ks : outParam (List FK)) : Prop where
  of : flatB P t = some ks
def feq : FK → Value → Value → Option Bool
  | .i _, .int k a, .int k' b => if k = k' then some (a == b) else none
  | .b, .bool a, .bool b => some (a == b)
  | .s, .string a, .string b => some (a.data.toList == b.data.toList)
  | _, _, _ => none
def aggEq : List FK → List Value → List Value → Option Bool
  | [], [], [] => some true
  | k :: ks, v :: vs, u :: us => match feq k v u, aggEq ks vs us with
    | some b, some r => some (b && r)
    | _, _ => none
  | _, _, _ => none
section
variable {P : Program}
theorem run_feq {d : Nat} {t : TypeId} {k : FK} {v u : Value} {b : Bool} (w : World) (hk : fkOf P t = some k) (h : feq k v u = some b) : (Op.equalIn (d + 1) t v u).run P w = .ok b w := by
  unfold fkOf at hk
  split at hk
  · rename_i k' hu
    cases hk
    cases v <;> first | cases h | skip
    cases u <;> first | cases h | skip
    rename_i ka a kb b'
    simp only [feq] at h
    split at h
    · rename_i e; subst e; cases h
      simp [Op.equalIn, run_underlying hu]
    · cases h
  · rename_i hu
    cases hk
    cases v <;> first | cases h | skip
    cases u <;> first | cases h | skip
    simp [Op.equalIn, run_underlying hu]
  · rename_i hu
    cases hk
    cases v <;> first | cases h | skip
    cases u <;> first | cases h | skip
    rename_i x y
    have : (x == y) = (x.data.toList == y.data.toList) := by
      obtain ⟨⟨x⟩⟩ := x
      obtain ⟨⟨y⟩⟩ := y
      show ((⟨x⟩ : Array UInt8) == ⟨y⟩) = (x == y)
      simp
    simp [Op.equalIn, run_underlying hu, this]
  · cases hk
theorem run_part {t : TypeId} {cs : Array Value} {off : Nat} {v : Value} (w : World) (h1 : oneB P t = true) (hv : cs[off]? = some v) : (part t cs off).run P w = .ok v w := by
  have h := (One.of h1).agg w
  simp [part, h, hv]
theorem run_flds {d : Nat} (w : World) : ∀ (fs : List Field) (ks : List FK) (off : Nat) (vs us pv pu : List Value) (b : Bool), fldsB P off fs = some ks → pv.length = off → pu.length = off → aggEq ks vs us = some b →
    (Op.eqFields (d + 1) (pv ++ vs).toArray (pu ++ us).toArray fs).run P w = .ok b w
  | [], ks, off, vs, us, pv, pu, b, h, _, _, hb => by
    cases h
    cases vs with
    | cons => cases us <;> cases hb
    | nil =>
      cases us with
      | cons => cases hb
      | nil => cases hb; rfl
  | f :: fs, ks, off, vs, us, pv, pu, b, h, hv, hu, hb => by
    simp only [fldsB] at h
    split at h
    · rename_i hc
      obtain ⟨hn, ho, h1⟩ := hc
      split at h
      · rename_i k ks' hk hks
        cases h
        cases vs with
        | nil => cases us <;> cases hb
        | cons v vs =>
          cases us with
          | nil => cases hb
          | cons u us =>
            simp only [aggEq] at hb
            split at hb
            · rename_i b' r hb' hr
              cases hb
              have p1 := run_part (cs := (pv ++ v :: vs).toArray) (off := f.offset) (v := v) w h1 (by rw [ho, ← hv]; simp)
              have p2 := run_part (cs := (pu ++ u :: us).toArray) (off := f.offset) (v := u) w h1 (by rw [ho, ← hu]; simp)
              have p3 := run_feq (d := d) w hk hb'
              have ih := run_flds (d := d) w fs ks' (off + 1) vs us (pv ++ [v]) (pu ++ [u]) r hks (by simp [hv]) (by simp [hu]) hr
              simp only [List.append_assoc, List.singleton_append] at ih
              simp only [Op.eqFields]
              rw [if_pos hn, Sem.run_bind, p1, Result.andThen_ok, Sem.run_bind, p2, Result.andThen_ok, Sem.run_bind, p3, Result.andThen_ok]
              cases b' with
              | false => simp
              | true => simp only [Bool.not_true, Bool.false_eq_true, if_false, Bool.true_and]; exact ih
            · cases hb
      · cases h
    · cases h
theorem run_aggEq {t : TypeId} {ks : List FK} {vs us : List Value} {b : Bool} (w : World) (d : Nat) (ht : flatB P t = some ks) (hb : aggEq ks vs us = some b) : (Op.equalIn (d + 2) t (.agg vs.toArray) (.agg us.toArray)).run P w = .ok b w := by
  unfold flatB at ht
  split at ht
  · rename_i fs hu
    split at ht
    · rename_i hc
      have hf : P.fieldsOf t = fs := by simp [Program.fieldsOf, hu]
      rw [run_equalIn_struct w (d + 1) t _ _ (by rw [hf]; exact hu) hc.1, hf]
      exact run_flds w fs.toList ks 0 vs us [] [] b ht rfl rfl hb
    · cases ht
  · cases ht
theorem flat_guard {t : TypeId} {ks : List FK} (ht : flatB P t = some ks) : P.eqGuardType P.depth t = false := by
  unfold flatB at ht
  split at ht
  · split at ht
    · rename_i hc; exact hc.2
    · cases ht
  · cases ht
variable {n : Nat} {o : Outer} {sr : List Tmp} {ops : Array Oper} {Q : Post} {St : List HProp} {rest : List Oper} {xs : Env} {hs : List HProp}
variable {d : Option Tmp} {ty : TypeId} {pos : String} {af : Array Edge}
theorem W.agg_eq {t t2 : TypeId} {x y : Operand} {vs us : List Value} {ks : List FK} {b : Bool} [ht : FlatTy P t ks] (hx : ev xs x = some (.agg vs.toArray)) (hy : ev xs y = some (.agg us.toArray)) (hb : aggEq ks vs us = some b) (hd : fits n d = true)
    (k : W P n o sr ops Q St rest (put d (.bool b) xs) hs) : W P n o sr ops Q St (⟨d, .binOp .eql t x y t2, ty, pos, af, none⟩ :: rest) xs hs :=
  W.val rfl (by simp only [kind]; split <;> (intro h; cases h)) hd (fun ac w ha => by
    have h1 := run_aggEq (P := P) w 9998 ht.of hb
    show ((do eqGuard .eql t x y (ac.eval x) (ac.eval y); binOp .eql t (ac.eval x) (ac.eval y) : Sem Value) >>= fun v => pure (Next.value v)).run P w = _
    rw [ha.ev hx, ha.ev hy, Sem.run_bind, Sem.run_bind, run_eqGuard_agg w .eql t x y _ _ (flat_guard ht.of), Result.andThen_ok, run_eql_struct, h1]
    rfl) k
theorem W.agg_ne {t t2 : TypeId} {x y : Operand} {vs us : List Value} {ks : List FK} {b : Bool} [ht : FlatTy P t ks] (hx : ev xs x = some (.agg vs.toArray)) (hy : ev xs y = some (.agg us.toArray)) (hb : aggEq ks vs us = some b) (hd : fits n d = true)
    (k : W P n o sr ops Q St rest (put d (.bool (!b)) xs) hs) : W P n o sr ops Q St (⟨d, .binOp .neq t x y t2, ty, pos, af, none⟩ :: rest) xs hs :=
  W.val rfl (by simp only [kind]; split <;> (intro h; cases h)) hd (fun ac w ha => by
    have h1 := run_aggEq (P := P) w 9998 ht.of hb
    show ((do eqGuard .neq t x y (ac.eval x) (ac.eval y); binOp .neq t (ac.eval x) (ac.eval y) : Sem Value) >>= fun v => pure (Next.value v)).run P w = _
    rw [ha.ev hx, ha.ev hy, Sem.run_bind, Sem.run_bind, run_eqGuard_agg w .neq t x y _ _ (flat_guard ht.of), Result.andThen_ok, run_neq_struct, h1]
    rfl) k
def evl (xs : Env) : List Operand → Option (List Value)
  | [] => some []
  | x :: r => match ev xs x, evl xs r with | some v, some l => some (v :: l) | _, _ => none
theorem evl_map {xs : Env} : ∀ {l : List Operand} {vs : List Value}, evl xs l = some vs → l.map (ev xs) = vs.map some
  | [], vs, h => by cases h; rfl
  | x :: r, vs, h => by
    simp only [evl] at h
    split at h
    · rename_i v l hv hl
      cases h
      simp only [List.map_cons, hv, evl_map hl]
    · cases h
def evq (xs : Env) : List (Nat × Operand) → Option (List (Nat × Value))
  | [] => some []
  | (i, x) :: r => match ev xs x, evq xs r with | some v, some l => some ((i, v) :: l) | _, _ => none
theorem evq_map {xs : Env} : ∀ {ps : List (Nat × Operand)} {es : List (Nat × Value)}, evq xs ps = some es → ps.map (fun p => (p.1, ev xs p.2)) = es.map (fun p => (p.1, some p.2))
  | [], es, h => by cases h; rfl
  | (i, x) :: r, es, h => by
    simp only [evq] at h
    split at h
    · rename_i v l hv hl
      cases h
      simp only [List.map_cons, hv, evq_map hl]
    · cases h
def intsOf (kd : IntKind) : Nat → List (Nat × Value) → Option (List Int)
  | _, [] => some []
  | k, (i, .int kd' z) :: r => if i = k ∧ kd' = kd then match intsOf kd (k + 1) r with | some l => some (z :: l) | none => none else none
  | _, _ => none
theorem intsOf_spec {kd : IntKind} : ∀ {es : List (Nat × Value)} {k : Nat} {zs : List Int}, intsOf kd k es = some zs → es = enum k (zs.map (Value.int kd))
  | [], k, zs, h => by cases h; rfl
  | (i, v) :: r, k, zs, h => by
    cases v <;> simp only [intsOf, reduceCtorEq] at h
    split at h
    · rename_i hc
      split at h
      · rename_i l hl
        cases h
        obtain ⟨rfl, rfl⟩ := hc
        simp only [List.map_cons, enum, ← intsOf_spec hl]
      · cases h
    · cases h
def strsOf : Nat → List (Nat × Value) → Option (List (List UInt8))
  | _, [] => some []
  | k, (i, .string s) :: r => if i = k then match strsOf (k + 1) r with | some l => some (s.data.toList :: l) | none => none else none
  | _, _ => none
theorem strsOf_spec : ∀ {es : List (Nat × Value)} {k : Nat} {zs : List (List UInt8)}, strsOf k es = some zs → es = enum k (zs.map fun s => str s)
  | [], k, zs, h => by cases h; rfl
  | (i, v) :: r, k, zs, h => by
    cases v <;> simp only [strsOf, reduceCtorEq] at h
    split at h
    · rename_i hc
      split at h
      · rename_i l hl
        cases h
        subst hc
        simp only [List.map_cons, enum, ← strsOf_spec hl]
      · cases h
    · cases h
theorem W.bsi {t e by_ m : Nat} {kd : IntKind} {parts : Array (Nat × Operand)} {es : List (Nat × Value)} {zs : List Int} [ht : SliceTy P t e 1 by_] [hk : IntTy P e kd] (hp : evq xs parts.toList = some es) (hz : intsOf kd 0 es = some zs) (hm : m = zs.length) (hml : Nat.ble zs.length 100000 = true) (hd : fits n d = true) (hI : Incl St hs)
    (k : ∀ b, W P n o sr ops Q St rest (put d (.slice (some ⟨b, 0, none⟩) zs.length zs.length) xs) (sl (Enc.int kd) e (some ⟨b, 0, none⟩) zs.length zs :: hs)) :
    W P n o sr ops Q St (⟨d, .buildSlice t m parts, ty, pos, af, none⟩ :: rest) xs hs := by
  have h := intsOf_spec hz
  refine W.buildSlice (ht := ht) (Enc.int kd) zs (vs := zs.map (Value.int kd)) hm (by have := Nat.le_of_ble_eq_true hml; simp; omega) (by rw [← h]; exact evq_map hp) ?_ hd hI k
  rw [List.map_map]; rfl
theorem W.bss {t e by_ m : Nat} {parts : Array (Nat × Operand)} {es : List (Nat × Value)} {zs : List (List UInt8)} [ht : SliceTy P t e 1 by_] (hp : evq xs parts.toList = some es) (hz : strsOf 0 es = some zs) (hm : m = zs.length) (hml : Nat.ble zs.length 100000 = true) (hd : fits n d = true) (hI : Incl St hs)
    (k : ∀ b, W P n o sr ops Q St rest (put d (.slice (some ⟨b, 0, none⟩) zs.length zs.length) xs) (sl Enc.str e (some ⟨b, 0, none⟩) zs.length zs :: hs)) :
    W P n o sr ops Q St (⟨d, .buildSlice t m parts, ty, pos, af, none⟩ :: rest) xs hs := by
  have h := strsOf_spec hz
  refine W.buildSlice (ht := ht) Enc.str zs (vs := zs.map fun s => str s) hm (by have := Nat.le_of_ble_eq_true hml; simp; omega) (by rw [← h]; exact evq_map hp) ?_ hd hI k
  rw [List.map_map]; rfl
class TyEnc (P : Program) (e : TypeId) {α : outParam Type} (En : outParam (Enc α)) : Prop where
  mk ::
class Elt {α : Type} (En : Enc α) (vs : List Value) (y : outParam α) : Prop where
  eq : En.f y = vs
theorem W.sla {t e sz by_ : Nat} {α : Type} {En : Enc α} {y : α} {x : Operand} {vs : List Value} [ht : SliceTy P t e sz by_] [TyEnc P e En] [hy : Elt En vs y] (hx : ev xs x = some (.agg vs.toArray)) (hsz : En.sz = sz) (hb : Nat.ble En.sz 4096 = true) (hd : fits n d = true) (hI : Incl St hs)
    (k : ∀ b, W P n o sr ops Q St rest (put d (.slice (some ⟨b, 0, none⟩) 1 1) xs) (sl En e (some ⟨b, 0, none⟩) 1 [y] :: hs)) :
    W P n o sr ops Q St (⟨d, .buildSlice t 1 #[(0, x)], ty, pos, af, none⟩ :: rest) xs hs := by
  subst hsz
  exact W.slice1 (ht := ht) En y hx (by rw [hy.eq]; rfl) hb hd hI k
class FieldOne (P : Program) (t f : Nat) (off : outParam Nat) : Prop where
  run : ∀ (w : World) (vs : List Value) (v : Value), vs[off]? = some v → (Instr.field t (.agg vs.toArray) f).run P w = .ok v w
def fieldOneB (P : Program) (t f : Nat) : Option Nat :=
  match P.underlying t with
  | some (.struct fs) => match fs[f]? with
    | some fl => if oneB P fl.type = true then some fl.offset else none
    | none => none
  | _ => none
theorem FieldOne.of {t f off : Nat} (h : fieldOneB P t f = some off) : FieldOne P t f off := by
  refine ⟨fun w vs v hv => ?_⟩
  unfold fieldOneB at h
  split at h
  · rename_i fs hu
    split at h
    · rename_i fl hf
      split at h
      · rename_i h1
        cases h
        have := run_part (P := P) (cs := vs.toArray) (off := fl.offset) (v := v) w h1 (by simpa using hv)
        simp [Instr.field, run_underlying hu, hf, asAgg, this]
      · cases h
    · cases h
  · cases h
theorem W.fld {t f off : Nat} {x : Operand} {vs : List Value} {v : Value} [hf : FieldOne P t f off] (hx : ev xs x = some (.agg vs.toArray)) (hv : vs[off]? = some v) (hd : fits n d = true)
    (k : W P n o sr ops Q St rest (put d v xs) hs) : W P n o sr ops Q St (⟨d, .field t x f, ty, pos, af, none⟩ :: rest) xs hs :=
  W.val rfl (by simp [kind]) hd (fun ac w ha => by
    show ((Instr.field t (ac.eval x) f) >>= fun v => pure (Next.value v)).run P w = _
    rw [ha.ev hx, Sem.run_bind, hf.run w vs v hv]; rfl) k
theorem W.mkf {fn : Fn} {xa xc : Array Operand} {la lc : List Value} (ha : evl xs xa.toList = some la) (hc : evl xs xc.toList = some lc) (hd : fits n d = true)
    (k : W P n o sr ops Q St rest (put d (.func fn la.toArray lc.toArray) xs) hs) : W P n o sr ops Q St (⟨d, .makeFunc fn xa xc, ty, pos, af, none⟩ :: rest) xs hs :=
  W.val rfl (by simp [kind]) hd (fun ac w hac => by
    have key : ∀ (l : List Operand) (vs : List Value), l.map (ev xs) = vs.map some → l.map ac.eval = vs := by
      intro l
      induction l with
      | nil => intro vs h; cases vs with
        | nil => rfl
        | cons => cases h
      | cons x l ih => intro vs h; cases vs with
        | nil => cases h
        | cons v vs =>
          simp only [List.map_cons, List.cons.injEq] at h ⊢
          exact ⟨hac.ev h.1, ih vs h.2⟩
    have h1 : xa.map ac.eval = la.toArray := by have := key _ _ (evl_map ha); apply Array.toList_inj.1; simpa using this
    have h2 : xc.map ac.eval = lc.toArray := by have := key _ _ (evl_map hc); apply Array.toList_inj.1; simpa using this
    show ((Instr.makeFunc fn (xa.map ac.eval) (xc.map ac.eval)) >>= fun v => pure (Next.value v)).run P w = _
    rw [h1, h2]; rfl) k
theorem wrapu64 {a : Int} (h1 : 0 ≤ a) (h2 : a ≤ 18446744073709551615) : IntKind.u64.wrap a = a := wrapu rfl h1 (by show a < 18446744073709551616; omega)
class Plan (id : Nat) (sr : outParam (List Tmp)) (π : outParam (List Nat)) : Prop where
  mk ::
theorem C.region_by {id : Nat} {sr : List Tmp} {π : List Nat} {l : List Oper} [Plan id sr π] (hm : P.follows .mixedOrders = true) (hc : calmB P sr l π = true) (hQ : Calm Q) (h : W P n o sr l.toArray Q [] (pick l.toArray π) xs hs) : C P n o Q (.region id l.toArray true) xs hs :=
  C.region_draw sr π hm hc hQ h
theorem W.callv {f : FuncId} {fx : Operand} {args all : List Value} {first captured : Array Value} {xargs : Array Operand} {ats : Array TypeId} {Pre Rs : List HProp} {q : Value → List HProp → Prop}
    [hc : Callable P f] (hf : ev xs fx = some (.func (.func f) first captured)) (hargs : evl xs xargs.toList = some args) (hall' : first.toList ++ args ++ captured.toList = all) (he : Ent hs Pre Rs) (hd : fits n d = true) (hI : Incl St Rs) (hs0 : Trip P f all Pre q)
    (k : ∀ v Ps, q v Ps → W P n o sr ops Q St rest (put d v xs) (Ps ++ Rs)) :
    W P n o sr ops Q St (⟨d, .call { callee := .value fx, args := xargs, argTypes := ats }, ty, pos, af, none⟩ :: rest) xs hs := by
  subst hall'
  constructor; intro a w ha hw
  have hargs' : xargs.map a.eval = args.toArray := by
    have : ∀ (l : List Operand) (vs : List Value), l.map (ev xs) = vs.map some → l.map a.eval = vs := by
      intro l
      induction l with
      | nil => intro vs h; cases vs with
        | nil => rfl
        | cons => cases h
      | cons x l ih => intro vs h; cases vs with
        | nil => cases h
        | cons v vs =>
          simp only [List.map_cons, List.cons.injEq] at h ⊢
          exact ⟨ha.ev h.1, ih vs h.2⟩
    have h2 := this xargs.toList args (evl_map hargs)
    apply Array.toList_inj.1
    simpa using h2
  rw [wpK, if_pos (by simp [Region.wanted])]
  show Oper.wp P _ a w (fun a w => (freeSt sr ops _ = false → ∀ R ∈ St, SL.holds R w) ∧ wpK P sr ops Q St rest a w) Q
  have hall : first ++ args.toArray ++ captured = (first.toList ++ args ++ captured.toList).toArray := by
    apply Array.toList_inj.1; simp
  have hr : (execOp a.eval ⟨d, .call { callee := .value fx, args := xargs, argTypes := ats }, ty, pos, af, none⟩).run P w = .ok (.enter f (first.toList ++ args ++ captured.toList).toArray) w := by
    simp only [Go.execOp, Go.resolve, ha.ev hf, Deferred.ofValue, Go.invoke, hargs', hall, Sem.run_bind, Sem.run_pure, Result.andThen_ok, hc.run]
  simp only [Oper.wp, hr, Oper.upon_enter]
  refine (hs0.run o w Rs (hw.lift he.lift)).mono ?_
  rintro e w' ⟨v, Ps, rfl, hq, hw'⟩
  exact ⟨fun _ => (hI.app (Ps := Ps)).holds hw', k v Ps hq _ _ (ha.put hd v) hw'⟩
theorem W.callp {f : FuncId} {args : List Value} {xargs : Array Operand} {ats : Array TypeId} {Pre Rs : List HProp} {φ : Value → Prop}
    [hc : Callable P f] (hargs : xargs.toList.map (ev xs) = args.map some) (he : Ent hs Pre Rs) (hd : fits n d = true) (hI : Incl St (Pre ++ Rs)) (hs0 : Trip P f args Pre (fun v Ps => φ v ∧ Ps = Pre))
    (k : ∀ v, φ v → W P n o sr ops Q St rest (put d v xs) (Pre ++ Rs)) :
    W P n o sr ops Q St (⟨d, .call { callee := .value (.func f), args := xargs, argTypes := ats }, ty, pos, af, none⟩ :: rest) xs hs := by
  constructor; intro a w ha hw
  have hargs' : xargs.map a.eval = args.toArray := by
    have : ∀ (l : List Operand) (vs : List Value), l.map (ev xs) = vs.map some → l.map a.eval = vs := by
      intro l
      induction l with
      | nil => intro vs h; cases vs with
        | nil => rfl
        | cons => cases h
      | cons x l ih => intro vs h; cases vs with
        | nil => cases h
        | cons v vs =>
          simp only [List.map_cons, List.cons.injEq] at h ⊢
          exact ⟨ha.ev h.1, ih vs h.2⟩
    have h2 := this xargs.toList args hargs
    apply Array.toList_inj.1
    simpa using h2
  rw [wpK, if_pos (by simp [Region.wanted])]
  show Oper.wp P _ a w (fun a w => (freeSt sr ops _ = false → ∀ R ∈ St, SL.holds R w) ∧ wpK P sr ops Q St rest a w) Q
  have hr : (execOp a.eval ⟨d, .call { callee := .value (.func f), args := xargs, argTypes := ats }, ty, pos, af, none⟩).run P w = .ok (.enter f args.toArray) w := by
    simp [execOp, Go.resolve, Act.eval, Deferred.ofValue, Go.invoke, hc.run, hargs']
  simp only [Oper.wp, hr, Oper.upon_enter]
  refine (hs0.run o w Rs (hw.lift he.lift)).mono ?_
  rintro e w' ⟨v, Ps, rfl, ⟨hq, rfl⟩, hw'⟩
  exact ⟨fun _ => hI.holds hw', k v hq _ _ (ha.put hd v) hw'⟩
end
end Go.SL
namespace Go.SL
section
variable {P : Program} {n : Nat} {o : Outer} {Q : Post} {xs : Env} {hs : List HProp}
theorem run_loadVar_agg {t m b i : Nat} {vs : List Value} {w : World} [h1 : AggTy P t m] (hm : vs.length = m) (hc : ∀ (j : Nat) (v : Value), vs[j]? = some v → w.cell? ⟨b, i + j, none⟩ = some v) : (loadVar t ⟨b, i, none⟩).run P w = .ok (.agg vs.toArray) w := by
  have := run_loadCells (P := P) (w := w) b i vs hc
  rw [hm] at this
  simp [loadVar, h1.agg, h1.size, this]
theorem run_loadVar_one {t b i : Nat} {v : Value} {w : World} [h1 : One P t] (hc : w.cell? ⟨b, i, none⟩ = some v) : (loadVar t ⟨b, i, none⟩).run P w = .ok v w := by
  simp [loadVar, h1.agg, hc]
theorem blk_cells {b T i m : Nat} {cs vs : List Value} {r : List HProp} {w : World} (h : Sat o w (blk b T cs :: r)) (hv : (cs.drop i).take m = vs) : ∀ (j : Nat) (v : Value), vs[j]? = some v → w.cell? ⟨b, i + j, none⟩ = some v := fun j v hj => h.blk_cell (by
  subst hv
  rw [List.getElem?_take] at hj
  split at hj
  · rwa [List.getElem?_drop] at hj
  · cases hj)
theorem E.bodyc1 {fn : Func} {a : Tmp} {t m b i T : Nat} {vs cs : List Value} {r Rs Ps : List HProp} {q : Value → List HProp → Prop} {e : Exit} [h1 : AggTy P t m] (hf : fn.results = #[.cell a t]) (he : e = .ret ∨ e = .normal)
    (ha : get xs a = some (.pointer (some ⟨b, i, none⟩))) (hfd : Find hs (blk b T cs) r) (hv : (cs.drop i).take m = vs) (hm : vs.length = m) (hq : q (.agg vs.toArray) Ps) (hh : Ent hs Ps Rs) : E n o (bodyQ P fn o Rs q) e xs hs :=
  E.body he _ (fun ac w hac hw => by
    have hl := run_loadVar_agg (P := P) (t := t) hm (blk_cells (hw.lift hfd.lift) hv)
    have hg' : ac.tmps[a]?.getD undef = .pointer (some ⟨b, i, none⟩) := by rw [hac.get a _ ha]; rfl
    simp [results, hf, hg', asAddr, hl]) hq hh
theorem E.bodyc0 {fn : Func} {a : Tmp} {t b i T : Nat} {v : Value} {cs : List Value} {r Rs Ps : List HProp} {q : Value → List HProp → Prop} {e : Exit} [h1 : One P t] (hf : fn.results = #[.cell a t]) (he : e = .ret ∨ e = .normal)
    (ha : get xs a = some (.pointer (some ⟨b, i, none⟩))) (hfd : Find hs (blk b T cs) r) (hv : cs[i]? = some v) (hq : q v Ps) (hh : Ent hs Ps Rs) : E n o (bodyQ P fn o Rs q) e xs hs :=
  E.body he _ (fun ac w hac hw => by
    have hl := run_loadVar_one (P := P) (t := t) ((hw.lift hfd.lift).blk_cell hv)
    have hg' : ac.tmps[a]?.getD undef = .pointer (some ⟨b, i, none⟩) := by rw [hac.get a _ ha]; rfl
    simp [results, hf, hg', asAddr, hl]) hq hh
theorem E.bodyc2 {fn : Func} {a u : Tmp} {t m b i T : Nat} {v' : Value} {vs cs : List Value} {r Rs Ps : List HProp} {q : Value → List HProp → Prop} {e : Exit} [h1 : AggTy P t m] (hf : fn.results = #[.cell a t, .tmp u]) (he : e = .ret ∨ e = .normal)
    (ha : get xs a = some (.pointer (some ⟨b, i, none⟩))) (hfd : Find hs (blk b T cs) r) (hv : (cs.drop i).take m = vs) (hm : vs.length = m) (hv' : get xs u = some v') (hq : q (.tuple #[.agg vs.toArray, v']) Ps) (hh : Ent hs Ps Rs) : E n o (bodyQ P fn o Rs q) e xs hs :=
  E.body he _ (fun ac w hac hw => by
    have hl := run_loadVar_agg (P := P) (t := t) hm (blk_cells (hw.lift hfd.lift) hv)
    have hg' : ac.tmps[a]?.getD undef = .pointer (some ⟨b, i, none⟩) := by rw [hac.get a _ ha]; rfl
    have hu' : ac.tmps[u]?.getD undef = v' := by rw [hac.get u _ hv']; rfl
    simp [results, hf, hg', hu', asAddr, hl]) hq hh
end
end Go.SL
namespace Go.SL
section
variable {P : Program} {sr : List Tmp} {ops : Array Oper} {Q : Exit → Act → World → Prop} {l : List Oper}
theorem no_both {s : List Nat} {i j : Nat} (hn : s.Nodup) (h1 : [i, j].Sublist s) (h2 : [j, i].Sublist s) : False := by
  induction s with
  | nil => cases h1
  | cons x s ih =>
    rw [List.nodup_cons] at hn
    cases h1 with
    | cons _ h1 =>
      cases h2 with
      | cons _ h2 => exact ih hn.2 h1 h2
      | cons_cons _ h2 => exact hn.1 (h1.subset (by simp))
    | cons_cons _ h1 =>
      cases h2 with
      | cons _ h2 => exact hn.1 (h2.subset (by simp))
      | cons_cons _ h2 => exact hn.1 (h1.subset (by simp))
theorem wpOps_of (hQ : Calm Q) (hno : ∀ (i : Nat) (y : Oper), ops[i]? = some y → noSel y = true) : ∀ (s π : List Nat) (St : List HProp) (a : Act) (w : World), π.Perm s → s.Nodup → (∀ i ∈ s, i < ops.size) →
    (∀ (i j : Nat) (x y : Oper), [i, j].Sublist π → [j, i].Sublist s → ops[i]? = some x → ops[j]? = some y → swapB P sr ops x y = true) → wpK P sr ops Q St (pick ops π) a w → wpOps P ops Q s a w
  | [], π, St, a, w, hp, _, _, _, k => by
    have : π = [] := hp.eq_nil
    subst this
    simpa [wpOps, pick, wpK] using k
  | i :: s, π, St, a, w, hp, hn, hb, H, k => by
    have hi : i ∈ π := hp.symm.subset List.mem_cons_self
    obtain ⟨π1, π2, rfl⟩ := List.append_of_mem hi
    have hil := hb i List.mem_cons_self
    have hy : ops[i]? = some ops[i] := Array.getElem?_eq_getElem hil
    have hpick : pick ops (π1 ++ i :: π2) = pick ops π1 ++ ops[i] :: pick ops π2 := by
      simp only [pick, List.filterMap_append, List.filterMap_cons, hy]
    rw [hpick] at k
    have hperm : (π1 ++ π2).Perm s := (List.perm_middle.symm.trans hp).cons_inv
    have hnd : (π1 ++ i :: π2).Nodup := hp.symm.nodup hn
    rw [List.nodup_cons] at hn
    have k2 := front hQ (hno i _ hy) (pick ops π2) (pick ops π1) St a w (fun x hx => by
      obtain ⟨j, hj, hx⟩ := List.mem_filterMap.1 hx
      refine ⟨hno j x hx, H j i x _ ?_ ?_ hx hy⟩
      · have h1 : [j].Sublist π1 := List.singleton_sublist.2 hj
        have h2 : [i].Sublist (i :: π2) := List.singleton_sublist.2 List.mem_cons_self
        exact h1.append h2
      · refine List.Sublist.cons_cons _ (List.singleton_sublist.2 (hperm.subset (List.mem_append_left _ hj)))) k
    have hap : pick ops π1 ++ pick ops π2 = pick ops (π1 ++ π2) := by simp [pick]
    rw [hap] at k2
    have step : ∀ St a w, wpK P sr ops Q St (pick ops (π1 ++ π2)) a w → wpOps P ops Q s a w := fun St a w k => by
      refine wpOps_of hQ hno s (π1 ++ π2) St a w hperm hn.2 (fun j hj => hb j (List.mem_cons_of_mem _ hj)) (fun p q x y h1 h2 hx hy' => H p q x y ?_ (h2.cons _) hx hy') k
      exact h1.trans ((List.Sublist.refl π1).append (List.sublist_cons_self i π2))
    rw [wpOps_cons]
    unfold wpOp
    simp only [hy]
    cases hw : Region.wanted ops[i] (yielded ops a.tmps) with
    | true => simp only [if_true]; exact .inl (Oper.wp_mono (fun a w ⟨St, h⟩ => step St a w h) (wpK_wp hw k2))
    | false => simp only [Bool.false_eq_true, if_false]; exact step _ _ _ (wpK_off hw k2)
def backB (ops : Array Oper) (T : Array Nat) : Bool := (List.range ops.size).all fun j => !(T.getD j 0 >>> ops.size != 0) && (List.range ops.size).all fun i => Nat.blt i j || !(T.getD j 0).testBit i
def baseB (ops : Array Oper) : Bool := ops.toList.all noSel && tableB ops (Region.before ops) && backB ops (Region.before ops)
theorem base_noSel (h : baseB ops = true) {i : Nat} {y : Oper} (hy : ops[i]? = some y) : noSel y = true := by
  simp only [baseB, Bool.and_eq_true, List.all_eq_true] at h
  exact h.1.1 y (by simpa using Array.mem_of_getElem? hy)
theorem base_back (h : baseB ops = true) {i : Nat} {y : Oper} (hy : ops[i]? = some y) : ∀ e ∈ y.after, Region.binds .any e = true → e.on < i := by
  simp only [baseB, tableB, Bool.and_eq_true, List.all_eq_true] at h
  have hi : i < ops.size := (Array.getElem?_eq_some_iff.1 hy).1
  have h2 := h.1.2 i (List.mem_range.2 hi)
  rw [hy] at h2
  simp only [Bool.and_eq_true, List.all_eq_true, Bool.or_eq_true, Bool.not_eq_true', Nat.blt_eq] at h2
  exact fun e he hb => (h2.1 e (by simpa using he)).resolve_left (by simp [hb])
theorem base_table (h : baseB ops = true) {i : Nat} {y : Oper} (hy : ops[i]? = some y) {j : Nat} (hj : j < i) (hT : ((Region.before ops).getD i 0).testBit j = true) :
    ∃ e ∈ y.after, Region.binds .any e = true ∧ (e.on = j ∨ (j < e.on ∧ ((Region.before ops).getD e.on 0).testBit j = true)) := by
  simp only [baseB, tableB, Bool.and_eq_true, List.all_eq_true] at h
  have hi : i < ops.size := (Array.getElem?_eq_some_iff.1 hy).1
  have h2 := h.1.2 i (List.mem_range.2 hi)
  rw [hy] at h2
  simp only [Bool.and_eq_true, List.all_eq_true, Bool.or_eq_true, Bool.not_eq_true', List.any_eq_true, beq_iff_eq, Nat.blt_eq] at h2
  rcases h2.2 j (List.mem_range.2 hj) with h3 | ⟨e, he, hb, hd⟩
  · rw [hT] at h3; cases h3
  · exact ⟨e, by simpa using he, hb, hd⟩
theorem base_anc (h : baseB ops = true) {listed : Array Bool}
    (hdown : ∀ x ox, ops[x]? = some ox → listed.getD x false = true → ∀ e ∈ ox.after, Region.binds .any e = true → listed.getD e.on false = true) :
    ∀ (i : Nat) (y : Oper), ops[i]? = some y → (∀ e ∈ y.after, Region.binds .any e = true → listed.getD e.on false = true) →
      ∀ j, j < i → ((Region.before ops).getD i 0).testBit j = true → listed.getD j false = true := by
  intro i
  induction i using Nat.strongRecOn with
  | _ i ih =>
    intro y hy hdeps j hj hT
    obtain ⟨e, he, hb, hd⟩ := base_table h hy hj hT
    have hl := hdeps e he hb
    rcases hd with rfl | ⟨hje, hd⟩
    · exact hl
    · have hlt := base_back h hy e he hb
      have hi : i < ops.size := (Array.getElem?_eq_some_iff.1 hy).1
      have hsome : ops[e.on]? = some (ops[e.on]'(by omega)) := Array.getElem?_eq_getElem (by omega)
      exact ih e.on hlt _ hsome (hdown e.on _ hsome hl) j hje hd
theorem base_lt (h : baseB ops = true) {i j : Nat} (hi : i < ops.size) (hj : j < ops.size) (hT : ((Region.before ops).getD j 0).testBit i = true) : i < j := by
  simp only [baseB, backB, Bool.and_eq_true, List.all_eq_true] at h
  have h2 := (h.2 j (List.mem_range.2 hj)).2 i (List.mem_range.2 hi)
  rw [hT] at h2
  simpa [Nat.blt_eq] using h2
theorem lin_spec (h : baseB ops = true) : ∀ (fuel t : Nat) (listed : Array Bool) (rem : List Nat), listed.size = ops.size → rem.Nodup → (∀ i, i ∈ rem ↔ i < ops.size ∧ listed.getD i true = false) → rem.length ≤ fuel →
    (∀ x ox, ops[x]? = some ox → listed.getD x false = true → ∀ e ∈ ox.after, Region.binds .any e = true → listed.getD e.on false = true) →
    (Region.linearise.go .any ops fuel t listed []).Perm rem ∧ (Region.linearise.go .any ops fuel t listed []).Pairwise fun i j => ((Region.before ops).getD i 0).testBit j = false
  | 0, t, listed, rem, _, _, _, hl, _ => by
    have : rem = [] := List.eq_nil_of_length_eq_zero (by omega)
    subst this
    exact ⟨.refl _, .nil⟩
  | fuel + 1, t, listed, rem, hsz, hnd, hmem, hl, hdown => by
    simp only [Region.linearise.go]
    change (match (Region.ready .any ops listed)[t % (Region.ready .any ops listed).length]? with
      | some i => Region.linearise.go .any ops fuel (t / (Region.ready .any ops listed).length) (listed.setIfInBounds i true) [i]
      | none => [].reverse).Perm rem ∧ (match (Region.ready .any ops listed)[t % (Region.ready .any ops listed).length]? with
      | some i => Region.linearise.go .any ops fuel (t / (Region.ready .any ops listed).length) (listed.setIfInBounds i true) [i]
      | none => [].reverse).Pairwise _
    cases hi : (Region.ready .any ops listed)[t % (Region.ready .any ops listed).length]? with
    | none =>
      have hnil : Region.ready .any ops listed = [] := by
        cases hr : Region.ready .any ops listed with
        | nil => rfl
        | cons x xs =>
          rw [hr] at hi
          have hlt : t % (x :: xs).length < (x :: xs).length := Nat.mod_lt _ (by simp)
          simp at hi
          simp at hlt
          omega
      have hrem : rem = [] := by
        -- the least of what is left is ready
        cases hrm : rem with
        | nil => rfl
        | cons x xs =>
          exfalso
          have key : ∀ i, i ∈ rem → False := by
            intro i
            induction i using Nat.strongRecOn with
            | _ i ih =>
              intro hi
              obtain ⟨hlt, hli⟩ := (hmem i).1 hi
              have hsome : ops[i]? = some ops[i] := Array.getElem?_eq_getElem hlt
              have : i ∈ Region.ready .any ops listed := by
                rw [mem_ready]
                refine ⟨hli, _, hsome, fun e he hb => ?_⟩
                have hb' := base_back h hsome e he hb
                have hne : e.on ∉ rem := fun hm => ih e.on hb' hm
                rw [hmem] at hne
                have h5 : ¬ listed.getD e.on true = false := fun h => hne ⟨by omega, h⟩
                rw [getD_bit (by omega) false true]
                simpa using h5
              rw [hnil] at this; cases this
          exact key x (hrm ▸ List.mem_cons_self)
      subst hrem
      exact ⟨.refl _, .nil⟩
    | some i =>
      simp only []
      rw [linearise_go_acc, List.reverse_singleton, List.singleton_append]
      have hir := List.mem_of_getElem? hi
      obtain ⟨h0, y, hy, hdeps⟩ := mem_ready.1 hir
      have hisz : i < ops.size := (Array.getElem?_eq_some_iff.1 hy).1
      have him : i ∈ rem := (hmem i).2 ⟨hisz, h0⟩
      have hget : ∀ j d, (listed.setIfInBounds i true).getD j d = if j = i then true else listed.getD j d := fun j d => by
        split
        · subst j; have hli : i < listed.size := by omega
          simp [hli]
        · rename_i hne; exact getD_set_ne d (fun e => hne e.symm)
      have ih := lin_spec h fuel (t / (Region.ready .any ops listed).length) (listed.setIfInBounds i true) (rem.erase i) (by simp [hsz]) (hnd.erase i) (fun j => by
        rw [hget, hnd.mem_erase_iff, hmem]
        split
        · rename_i e; subst j; simp
        · rename_i hne; simp [hne]) (by rw [List.length_erase_of_mem him]; omega) (fun x ox hx hlx e he hb => by
        rw [hget] at hlx ⊢
        split
        · rfl
        · split at hlx
          · rename_i e2; subst x
            rw [hy] at hx; cases hx
            exact hdeps e he hb
          · exact hdown x ox hx hlx e he hb)
      refine ⟨(ih.1.cons i).trans (List.perm_cons_erase him).symm, List.pairwise_cons.2 ⟨fun j hj => ?_, ih.2⟩⟩
      have hjr := ih.1.subset hj
      rw [hnd.mem_erase_iff] at hjr
      obtain ⟨hjlt, hjl⟩ := (hmem j).1 hjr.2
      cases hT : ((Region.before ops).getD i 0).testBit j with
      | false => rfl
      | true =>
        have hlt := base_lt h hjlt hisz hT
        have := base_anc h hdown i y hy hdeps j hlt hT
        rw [getD_bit (by omega) false true, hjl] at this
        cases this
def coverB (T : Array Nat) : Nat → List Nat → List (List Nat) → Bool
  | _, [], es => es.any List.isEmpty
  | 0, _ :: _, _ => false
  | fuel + 1, rem, es => rem.all fun i => (rem.any fun j => j != i && (T.getD i 0).testBit j) || coverB T fuel (rem.erase i) (es.filterMap fun e => match e with | x :: r => if x = i then some r else none | [] => none)
theorem coverB_sound {T : Array Nat} : ∀ (fuel : Nat) (rem : List Nat) (es : List (List Nat)) (e : List Nat), coverB T fuel rem es = true → e.Perm rem → e.Nodup → e.Pairwise (fun i j => (T.getD i 0).testBit j = false) → e ∈ es
  | _, [], es, e, h, hp, _, _ => by
    have : e = [] := hp.eq_nil
    subst this
    simp only [coverB, List.any_eq_true, List.isEmpty_iff] at h
    obtain ⟨x, hx, rfl⟩ := h
    exact hx
  | 0, x :: rem, es, e, h, _, _, _ => by cases h
  | fuel + 1, x :: rem, es, e, h, hp, hn, hw => by
    cases e with
    | nil => exact absurd hp.symm.eq_nil (by simp)
    | cons i e =>
      simp only [coverB, List.all_eq_true, Bool.or_eq_true] at h
      have him := hp.subset List.mem_cons_self
      rw [List.pairwise_cons] at hw
      rw [List.nodup_cons] at hn
      rcases h i him with h1 | h1
      · exfalso
        simp only [List.any_eq_true, Bool.and_eq_true, bne_iff_ne] at h1
        obtain ⟨j, hj, hne, hT⟩ := h1
        have hje : j ∈ e := by
          rcases List.mem_cons.1 (hp.symm.subset hj) with h2 | h2
          · exact absurd h2 hne
          · exact h2
        rw [hw.1 j hje] at hT; cases hT
      · have hpe : e.Perm ((x :: rem).erase i) := (hp.trans (List.perm_cons_erase him)).cons_inv
        have := coverB_sound fuel _ _ e h1 hpe hn.2 hw.2
        obtain ⟨f, hf, hfe⟩ := List.mem_filterMap.1 this
        cases f with
        | nil => cases hfe
        | cons y f =>
          simp only at hfe
          split at hfe
          · rename_i hy; subst hy; cases hfe; exact hf
          · cases hfe
def freeB (P : Program) (sr : List Tmp) (ops : Array Oper) (T : Array Nat) (E : List Nat) (i j : Nat) : Bool :=
  i != j && ((T.getD j 0).testBit i || (E.contains i && E.contains j) || match ops[i]?, ops[j]? with | some x, some y => swapB P sr ops x y | _, _ => true)
def manyB (P : Program) (sr : List Tmp) (ops : Array Oper) (E : List Nat) (πs : List (List Nat)) : Bool :=
  baseB ops && pairB (fun i j => i != j) E && E.all (fun i => Nat.blt i ops.size) && coverB (Region.before ops) E.length E (πs.map fun π => π.filter E.contains) &&
    πs.all fun π => (List.range ops.size).all (fun i => π.contains i) && π.all (fun i => Nat.blt i ops.size) && pairB (freeB P sr ops (Region.before ops) E) π
def AllP (p : List Nat → Prop) : List (List Nat) → Prop
  | [] => True
  | π :: r => p π ∧ AllP p r
theorem AllP.mem {p : List Nat → Prop} : ∀ {πs : List (List Nat)} {π : List Nat}, AllP p πs → π ∈ πs → p π
  | [], _, _, h => by cases h
  | π :: r, _, h, hm => by
    rcases List.mem_cons.1 hm with rfl | hm
    · exact h.1
    · exact AllP.mem h.2 hm
theorem pair_sub {R : Nat → Nat → Prop} {l : List Nat} (h : l.Pairwise R) {i j : Nat} (hs : [i, j].Sublist l) : R i j := by
  have := h.sublist hs
  simpa using this
theorem wp_region_many {E : List Nat} {πs : List (List Nat)} {id : Nat} {a : Act} {w : World} (hm : P.follows .mixedOrders = true) (hQ : Calm Q) (hc : manyB P sr ops E πs = true)
    (h : ∀ π ∈ πs, wpK P sr ops Q [] (pick ops π) a { w with drawn := w.drawn + 1 }) : (Code.region id ops true).wp P Q a w := by
  refine wp_region_draw fun t => ?_
  simp only [Region.schedule, hm, Bool.true_or, if_true]
  simp only [manyB, Bool.and_eq_true, List.all_eq_true] at hc
  obtain ⟨⟨⟨⟨hb, hE⟩, hEl⟩, hcov⟩, hπ⟩ := hc
  have hEnd : E.Nodup := (pairB_spec hE).imp fun h => by simpa using h
  obtain ⟨hperm, hpw⟩ := lin_spec hb ops.size t (Array.replicate ops.size false) (List.range ops.size) (by simp) List.nodup_range (fun i => by
    rw [List.mem_range]
    refine ⟨fun h => ⟨h, by simp [h]⟩, fun h => h.1⟩) (by simp) (fun x ox hx hl => by
    have hi := (Array.getElem?_eq_some_iff.1 hx).1
    simp [hi] at hl)
  show wpOps P ops Q (Region.linearise.go .any ops ops.size t (Array.replicate ops.size false) []) a _
  generalize Region.linearise.go .any ops ops.size t (Array.replicate ops.size false) [] = s at hperm hpw ⊢
  have hsn : s.Nodup := hperm.symm.nodup List.nodup_range
  have hsl : ∀ i ∈ s, i < ops.size := fun i hi => List.mem_range.1 (hperm.subset hi)
  have hes : s.filter E.contains ∈ πs.map fun π => π.filter E.contains := by
    refine coverB_sound _ _ _ _ hcov ?_ (hsn.filter _) (hpw.filter _)
    refine (List.perm_ext_iff_of_nodup (hsn.filter _) hEnd).2 fun i => ?_
    rw [List.mem_filter]
    refine ⟨fun h => List.contains_iff_mem.1 h.2, fun h => ⟨hperm.symm.subset (List.mem_range.2 ?_), List.contains_iff_mem.2 h⟩⟩
    simpa [Nat.blt_eq] using hEl i h
  obtain ⟨π, hπm, hfe⟩ := List.mem_map.1 hes
  have hp3 := hπ π hπm
  have hpp := pairB_spec hp3.2
  have hπn : π.Nodup := hpp.imp fun h => by simp only [freeB, Bool.and_eq_true, bne_iff_ne] at h; exact h.1
  have hπs : π.Perm s := by
    refine ((List.perm_ext_iff_of_nodup hπn List.nodup_range).2 fun i => ⟨fun h => ?_, fun h => List.contains_iff_mem.1 (hp3.1.1 i h)⟩).trans hperm.symm
    have := hp3.1.2 i h
    simpa [Nat.blt_eq] using this
  refine wpOps_of hQ (fun i y hy => base_noSel hb hy) s π [] a _ hπs hsn hsl (fun i j x y h1 h2 hx hy => ?_) (h π hπm)
  have hf := pair_sub hpp h1
  simp only [freeB, Bool.and_eq_true, Bool.or_eq_true, hx, hy] at hf
  rcases hf.2 with (hT | hEE) | hsw
  · have := pair_sub hpw h2
    rw [hT] at this; cases this
  · exfalso
    have h3 : [i, j].Sublist (π.filter E.contains) := by
      have := h1.filter E.contains
      simpa [List.filter_cons, List.contains_iff_mem.1 hEE.1, List.contains_iff_mem.1 hEE.2] using this
    rw [hfe] at h3
    exact no_both hsn (h3.trans List.filter_sublist) h2
  · exact hsw
end
class Plans (id : Nat) (sr : outParam (List Tmp)) (E : outParam (List Nat)) (πs : outParam (List (List Nat))) : Prop where
  mk ::
theorem C.region_many {P : Program} {n : Nat} {o : Outer} {Q : Post} {xs : Env} {hs : List HProp} {id : Nat} {sr : List Tmp} {E : List Nat} {πs : List (List Nat)} {l : List Oper} [Plans id sr E πs] (hm : P.follows .mixedOrders = true) (hc : manyB P sr l.toArray E πs = true) (hQ : Calm Q)
    (h : AllP (fun π => W P n o sr l.toArray Q [] (pick l.toArray π) xs hs) πs) : C P n o Q (.region id l.toArray true) xs hs :=
  ⟨fun a w ha hw => wp_region_many hm hQ hc (fun π hπ => (h.mem hπ).run a _ ha (hw.drawn _))⟩
end Go.SL
namespace Go.SL
inductive Fill1 (offs : List (Nat × Nat)) : List Value → List (Nat × Value) → List Value → Prop
  | nil {z : List Value} : Fill1 offs z [] z
  | cons {z z' cells : List Value} {i off : Nat} {v : Value} {es : List (Nat × Value)} (ho : offs[i]? = some (off, 1)) (h1 : v.oneCell' = true) (hs : SetAt z off v z') (k : Fill1 offs z' es cells) : Fill1 offs z ((i, v) :: es) cells
theorem Fill1.fill {offs : List (Nat × Nat)} {z cells : List Value} {es : List (Nat × Value)} (h : Fill1 offs z es cells) : Instr.fill (offs[·]?) z.toArray es = some cells.toArray := by
  induction h with
  | nil => rfl
  | cons ho h1 hs k ih =>
    rename_i z z' cells i off v es
    obtain ⟨e1, e2⟩ := hs.eq
    have hc : v.cells = #[v] := by cases v <;> first | rfl | cases h1
    simp only [Instr.fill, ho, hc]
    rw [if_neg (by simp; omega)]
    subst e1
    simpa using ih
section
variable {P : Program} {n : Nat} {o : Outer} {sr : List Tmp} {ops : Array Oper} {Q : Post} {St : List HProp} {rest : List Oper} {xs : Env} {hs : List HProp}
variable {d : Option Tmp} {ty : TypeId} {pos : String} {af : Array Edge}
theorem W.bldr {t : TypeId} {parts : Array (Nat × Operand)} {es : List (Nat × Value)} {z : List Value} {offs : List (Nat × Nat)} {cells : List Value} [ht : StructTy P t z offs]
    (hp : evq xs parts.toList = some es) (hf : Fill1 offs z es cells) (hd : fits n d = true)
    (k : W P n o sr ops Q St rest (put d (.agg cells.toArray) xs) hs) : W P n o sr ops Q St (⟨d, .build t parts, ty, pos, af, none⟩ :: rest) xs hs :=
  W.build (evq_map hp) hf.fill hd k
theorem W.box_agg {t : Nat} {x : Operand} {vs : List Value} (hx : ev xs x = some (.agg vs.toArray)) (hd : fits n d = true) (hI : Incl St hs) (k : ∀ b, W P n o sr ops Q St rest (put d (.pointer (some ⟨b, 0, none⟩)) xs) (blk b t vs :: hs)) :
    W P n o sr ops Q St (⟨d, .box t x, ty, pos, af, none⟩ :: rest) xs hs := W.box hx hd hI k
theorem W.box1 {t : Nat} {x : Operand} {v : Value} (hx : ev xs x = some v) (h1 : v.oneCell' = true) (hd : fits n d = true) (hI : Incl St hs) (k : ∀ b, W P n o sr ops Q St rest (put d (.pointer (some ⟨b, 0, none⟩)) xs) (blk b t [v] :: hs)) :
    W P n o sr ops Q St (⟨d, .box t x, ty, pos, af, none⟩ :: rest) xs hs := by
  have hc : v.cells.toList = [v] := by cases v <;> first | rfl | cases h1
  exact W.box hx hd hI (by rw [hc]; exact k)
theorem W.alloc_agg {t : Nat} {vs : List Value} [hz : Zero P t (.agg vs.toArray)] (hd : fits n d = true) (hI : Incl St hs) (k : ∀ b, W P n o sr ops Q St rest (put d (.pointer (some ⟨b, 0, none⟩)) xs) (blk b t vs :: hs)) :
    W P n o sr ops Q St (⟨d, .alloc t, ty, pos, af, none⟩ :: rest) xs hs := W.alloc (hz := hz) hd hI k
theorem W.alloc1 {t : Nat} {v : Value} [hz : Zero P t v] (h1 : v.oneCell' = true) (hd : fits n d = true) (hI : Incl St hs) (k : ∀ b, W P n o sr ops Q St rest (put d (.pointer (some ⟨b, 0, none⟩)) xs) (blk b t [v] :: hs)) :
    W P n o sr ops Q St (⟨d, .alloc t, ty, pos, af, none⟩ :: rest) xs hs := by
  have hc : v.cells.toList = [v] := by cases v <;> first | rfl | cases h1
  exact W.alloc (hz := hz) hd hI (by rw [hc]; exact k)
theorem W.agg_all {t b T m : Nat} {x : Operand} {cs : List Value} {r : List HProp} [h1 : AggTy P t m] (hx : ev xs x = some (.pointer (some ⟨b, 0, none⟩))) (hf : Find hs (blk b T cs) r) (hm : cs.length = m)
    (hns : stbD sr d = false) (hd : fits n d = true) (k : W P n o sr ops Q St rest (put d (.agg cs.toArray) xs) hs) : W P n o sr ops Q St (⟨d, .load t x, ty, pos, af, none⟩ :: rest) xs hs :=
  W.agg hx hf (by rw [List.drop_zero, List.take_of_length_le (by omega)]) hm hns hd k
theorem W.store_all {t b T m : Nat} {x y : Operand} {vs cs : List Value} {r : List HProp} [h1 : AggTy P t m] (hx : ev xs x = some (.pointer (some ⟨b, 0, none⟩))) (hy : ev xs y = some (.agg vs.toArray)) (hm : vs.length = m) (h0 : vs.all (·.oneCell') = true)
    (hf : Find hs (blk b T cs) r) (hl : cs.length = m) (hI : Keep (freeSt sr ops ⟨none, .store t x y, ty, pos, af, none⟩) St (blk b T vs :: r)) (k : W P n o sr ops Q St rest xs (blk b T vs :: r)) :
    W P n o sr ops Q St (⟨none, .store t x y, ty, pos, af, none⟩ :: rest) xs hs :=
  W.op_skip rfl rfl rfl fun a w ha hw => by
    have hw' := hw.lift hf.lift
    obtain ⟨w', hrun, hs'⟩ := Sat.storeCells (P := P) (off := 0) vs 0 cs w hw' (by omega) (fun v hv => List.all_eq_true.1 h0 v hv)
    rw [Nat.add_zero, setAll_all _ _ (by omega)] at hs'
    refine ⟨w', _, ?_, hs', hI, k⟩
    show ((Instr.storeAt t (a.eval x) (a.eval y)) >>= fun _ => pure Next.skip).run P w = _
    rw [ha.ev hx, ha.ev hy, Sem.run_bind]
    simp [Instr.storeAt, Instr.sureAddr, storeVar, h1.size, Value.cells, hm, hrun]
theorem E.bodyca {fn : Func} {a : Tmp} {t m b T : Nat} {cs : List Value} {r Rs Ps : List HProp} {q : Value → List HProp → Prop} {e : Exit} [h1 : AggTy P t m] (hf : fn.results = #[.cell a t]) (he : e = .ret ∨ e = .normal)
    (ha : get xs a = some (.pointer (some ⟨b, 0, none⟩))) (hfd : Find hs (blk b T cs) r) (hm : cs.length = m) (hq : q (.agg cs.toArray) Ps) (hh : Ent hs Ps Rs) : E n o (bodyQ P fn o Rs q) e xs hs :=
  E.bodyc1 hf he ha hfd (by rw [List.drop_zero, List.take_of_length_le (by omega)]) hm hq hh
theorem W.slh {t e sz by_ m c : Nat} {x hi : Operand} {A : Option Addr} {kd : IntKind} {b : Int} [ht : SliceTy P t e sz by_] (hx : ev xs x = some (.slice A m c)) (hh : ev xs hi = some (.int kd b)) (h0 : 0 ≤ b) (h1 : b ≤ c) (hd : fits n d = true)
    (k : W P n o sr ops Q St rest (put d (.slice A b.toNat c) xs) hs) : W P n o sr ops Q St (⟨d, .slice t x none (some hi) none, ty, pos, af, none⟩ :: rest) xs hs := by
  refine W.val rfl (by simp only [kind]; first | (intro h; cases h; done) | (repeat' split) <;> (intro h; cases h)) hd (v := .slice A b.toNat c) (fun ac w ha => ?_) k
  show ((Instr.sliceAt t (ac.eval x) none (some (ac.eval hi)) none) >>= fun v => pure (Next.value v)).run P w = _
  rw [ha.ev hx, ha.ev hh, Sem.run_bind, run_sliceAt_to h0 h1]; rfl
theorem E.one {e : Exit} {A C : HProp} {r : List HProp} (hA : Find hs A r) (t : ∀ w, Sat o w (A :: r) → Sat o w (C :: r)) (k : E n o Q e xs (C :: r)) : E n o Q e xs hs :=
  E.turn (fun w hw => t w (hw.lift hA.lift)) k
theorem E.two {e : Exit} {A B C : HProp} {r r2 : List HProp} (hA : Find hs A r) (hB : Find r B r2) (t : ∀ w, Sat o w (A :: B :: r2) → Sat o w (C :: r2)) (k : E n o Q e xs (C :: r2)) : E n o Q e xs hs :=
  E.turn (fun w hw => t w ((hw.lift hA.lift).lift (hB.lift.cons _))) k
theorem C.one {c : Code} {A C' : HProp} {r : List HProp} (hA : Find hs A r) (t : ∀ w, Sat o w (A :: r) → Sat o w (C' :: r)) (k : C P n o Q c xs (C' :: r)) : C P n o Q c xs hs :=
  C.turn (fun w hw => t w (hw.lift hA.lift)) k
theorem C.two {c : Code} {A B C' : HProp} {r r2 : List HProp} (hA : Find hs A r) (hB : Find r B r2) (t : ∀ w, Sat o w (A :: B :: r2) → Sat o w (C' :: r2)) (k : C P n o Q c xs (C' :: r2)) : C P n o Q c xs hs :=
  C.turn (fun w hw => t w ((hw.lift hA.lift).lift (hB.lift.cons _))) k
end
theorem ent_ {p : Prop} (h : p := by (focus ((repeat (first | exact Ent.done | with_reducible exact Ent.same | (apply Ent.take; (first | (focus (with_reducible iterate 40 first | done | exact .here | apply Find.there); done) | (focus (iterate 40 first | done | exact .here | apply Find.there); done))) | (apply Ent.emp (sl_emp _ _)) | apply Ent.drop)); first | done | fail))) : p := h
theorem incl_ {p : Prop} (h : p := by (first | exact Keep.nil | (focus ((repeat (first | exact Incl.nil | (apply Incl.cons; (focus (with_reducible iterate 40 first | done | exact .here | apply Find.there); done)))); first | done | fail)) | (focus (apply Keep.incl; (repeat (first | exact Incl.nil | (apply Incl.cons; (focus (with_reducible iterate 40 first | done | exact .here | apply Find.there); done)))); first | done | fail)) | exact Keep.free (by kernel_rfl))) : p := h
theorem find_ {p : Prop} (h : p := by (focus (with_reducible iterate 40 first | done | exact .here | apply Find.there); done)) : p := h
end Go.SL
namespace Go.SL
def star2 (A B : HProp) : HProp := fun f => ∃ g h, A g ∧ B h ∧ Compat g h ∧ f = fun b => (g b).or (h b)
def starL : List HProp → HProp
  | [] => fun f => f = emp
  | A :: r => star2 A (starL r)
theorem Sat.split {o : Outer} {w : World} {A B : HProp} {r : List HProp} (k : Sat o w (star2 A B :: r)) : Sat o w (A :: B :: r) := by
  obtain ⟨ho, l, h1, h2, h3⟩ := k
  match l, h1 with
  | p :: l, h1 =>
    simp only [List.map_cons, List.cons.injEq] at h1
    obtain ⟨hp1, hp2⟩ := h2 p List.mem_cons_self
    rw [h1.1] at hp1
    obtain ⟨g, h, hg, hh, hc, hf⟩ := hp1
    have eg : ∀ b x, g b = some x → p.2 b = some x := fun b x hb => by rw [hf]; simp [hb]
    have eh : ∀ b x, h b = some x → p.2 b = some x := fun b x hb => by
      rw [hf]
      cases hgb : g b with
      | none => simp [hgb, hb]
      | some y => have := (hc b y x hgb hb).2; subst this; simp [hgb]
    rw [List.pairwise_cons] at h3
    refine ⟨ho, (A, g) :: (B, h) :: l, by simp [h1.2], fun q hq => ?_, ?_⟩
    · simp only [List.mem_cons] at hq
      rcases hq with e | e | hq
      · subst e; exact ⟨hg, fun b x hb => hp2 b x (eg b x hb)⟩
      · subst e; exact ⟨hh, fun b x hb => hp2 b x (eh b x hb)⟩
      · exact h2 q (List.mem_cons_of_mem _ hq)
    · simp only [List.pairwise_cons, List.mem_cons, forall_eq_or_imp]
      exact ⟨⟨hc, fun q hq b x y hx hy => h3.1 q hq b x y (eg b x hx) hy⟩, fun q hq b x y hx hy => h3.1 q hq b x y (eh b x hx) hy, h3.2⟩
theorem Sat.unite {o : Outer} {w : World} {A B : HProp} {r : List HProp} (k : Sat o w (A :: B :: r)) : Sat o w (star2 A B :: r) := by
  refine k.merge fun f g hf hg hc => ⟨_, ⟨f, g, hf, hg, hc, rfl⟩, fun b x hb => ?_⟩
  simp only [Option.or_eq_some_iff] at hb
  rcases hb with hb | ⟨_, hb⟩
  · exact ⟨x, .inl hb, rfl, id⟩
  · exact ⟨x, .inr hb, rfl, id⟩
theorem Sat.unstar {o : Outer} {w : World} : ∀ {Ps r : List HProp}, Sat o w (starL Ps :: r) → Sat o w (Ps ++ r)
  | [], r, k => k.lift (.drop _ _)
  | A :: Ps, r, k => by
    have h1 : Sat o w (A :: starL Ps :: r) := k.split
    have h2 : Sat o w (starL Ps :: A :: r) := h1.lift (.swap _ _ _)
    have h3 := h2.unstar
    exact h3.lift (Find.lift (Find.app (hs := A :: r) .here))
theorem Find.append {Ps r : List HProp} : ∀ (A : HProp), Lift (A :: (Ps ++ r)) (Ps ++ A :: r) := by
  induction Ps with
  | nil => intro A; exact .refl _
  | cons B Ps ih => intro A; exact (Lift.swap _ _ _).trans ((ih A).cons B)
theorem Sat.star {o : Outer} {w : World} : ∀ {Ps r : List HProp}, Sat o w (Ps ++ r) → Sat o w (starL Ps :: r)
  | [], r, k => k.lift (.emp (A := starL []) (show starL [] SL.emp from rfl) _)
  | A :: Ps, r, k => by
    have h2 : Sat o w (Ps ++ A :: r) := k.lift (Find.append A)
    have h3 : Sat o w (starL Ps :: A :: r) := Sat.star h2
    exact (h3.lift (.swap _ _ _)).unite
def exL {β : Type} (φ : β → Prop) (Ps : β → List HProp) : HProp := fun f => ∃ x, φ x ∧ starL (Ps x) f
theorem Sat.exo {o : Outer} {w : World} {β : Type} {φ : β → Prop} {Ps : β → List HProp} {r : List HProp} (k : Sat o w (exL φ Ps :: r)) : ∃ x : { x // φ x }, Sat o w (Ps x.1 ++ r) := by
  obtain ⟨x, hx⟩ := Sat.opened (B := fun x : { x // φ x } => starL (Ps x.1)) k (fun f hf => by obtain ⟨x, h1, h2⟩ := hf; exact ⟨⟨x, h1⟩, h2⟩)
  exact ⟨x, hx.unstar⟩
theorem Sat.exc {o : Outer} {w : World} {β : Type} {φ : β → Prop} {Ps : β → List HProp} {r : List HProp} (x : β) (hx : φ x) (k : Sat o w (Ps x ++ r)) : Sat o w (exL φ Ps :: r) :=
  k.star.weaken fun f hf => ⟨x, hx, hf⟩
theorem starL_mem {A : HProp} : ∀ {Ps r : List HProp} {f : Hp}, Find Ps A r → starL Ps f → ∃ g, A g ∧ ∀ b x, g b = some x → f b = some x := by
  intro Ps r f h
  induction h generalizing f with
  | here =>
    rintro ⟨g, h, hg, _, _, rfl⟩
    exact ⟨g, hg, fun b x hb => by simp [hb]⟩
  | there _ ih =>
    rintro ⟨g, h, _, hh, hc, rfl⟩
    obtain ⟨u, hu, k⟩ := ih hh
    refine ⟨u, hu, fun b x hb => ?_⟩
    have hb' := k b x hb
    cases hgb : g b with
    | none => simp [hgb, hb']
    | some y => have := (hc b y x hgb hb').2; subst this; simp [hgb]
theorem exL_cell {β : Type} {φ : β → Prop} {Ps : β → List HProp} {b i : Nat} {v : Value} (A : β → HProp) (r : β → List HProp) (hf : ∀ x, Find (Ps x) (A x) (r x)) (hc : ∀ x, φ x → CellAt (A x) b i v) : CellAt (exL φ Ps) b i v := by
  rintro f w ⟨x, hx, hs⟩ hw
  obtain ⟨g, hg, k⟩ := starL_mem (hf x) hs
  exact hc x hx g w hg (fun b y hb => hw b y (k b y hb))
theorem exL_reads {β α : Type} {φ : β → Prop} {Ps : β → List HProp} {En : Enc α} {B : Option Addr} {l : List α} (A : β → HProp) (r : β → List HProp) (hf : ∀ x, Find (Ps x) (A x) (r x)) (hc : ∀ x, φ x → Reads (A x) En B l) : Reads (exL φ Ps) En B l := by
  rintro f w ⟨x, hx, hs⟩ hw
  obtain ⟨g, hg, k⟩ := starL_mem (hf x) hs
  exact hc x hx g w hg (fun b y hb => hw b y (k b y hb))
section
variable {P : Program} {n : Nat} {o : Outer} {sr : List Tmp} {ops : Array Oper} {Q : Post} {St : List HProp} {rest : List Oper} {xs : Env} {hs : List HProp}
variable {d : Option Tmp} {ty : TypeId} {pos : String} {af : Array Edge}
theorem W.exo {β : Type} {φ : β → Prop} {Ps : β → List HProp} {r : List HProp} (hf : Find hs (exL φ Ps) r) (k : ∀ x, φ x → W P n o sr ops Q St rest xs (Ps x ++ r)) : W P n o sr ops Q St rest xs hs :=
  W.ex (fun w hw => (hw.lift hf.lift).exo) (fun x => k x.1 x.2)
theorem C.exo {β : Type} {φ : β → Prop} {Ps : β → List HProp} {r : List HProp} {c : Code} (hf : Find hs (exL φ Ps) r) (k : ∀ x, φ x → C P n o Q c xs (Ps x ++ r)) : C P n o Q c xs hs :=
  C.ex (fun w hw => (hw.lift hf.lift).exo) (fun x => k x.1 x.2)
theorem W.exc {β : Type} {φ : β → Prop} {Ps : β → List HProp} {r : List HProp} (x : β) (hx : φ x) (he : Ent hs (Ps x) r) (k : W P n o sr ops Q St rest xs (exL φ Ps :: r)) : W P n o sr ops Q St rest xs hs :=
  W.turn (fun w hw => Sat.exc x hx (hw.lift he.lift)) k
theorem C.exc {β : Type} {φ : β → Prop} {Ps : β → List HProp} {r : List HProp} {c : Code} (x : β) (hx : φ x) (he : Ent hs (Ps x) r) (k : C P n o Q c xs (exL φ Ps :: r)) : C P n o Q c xs hs :=
  C.turn (fun w hw => Sat.exc x hx (hw.lift he.lift)) k
theorem E.exc {β : Type} {φ : β → Prop} {Ps : β → List HProp} {r : List HProp} {e : Exit} (x : β) (hx : φ x) (he : Ent hs (Ps x) r) (k : E n o Q e xs (exL φ Ps :: r)) : E n o Q e xs hs :=
  E.turn (fun w hw => Sat.exc x hx (hw.lift he.lift)) k
theorem W.fold {β : Type} {φ : β → Prop} {Ps : β → List HProp} {r : List HProp} (X : HProp) (x : β) (hX : X = exL φ Ps) (hx : φ x) (he : Ent hs (Ps x) r) (k : W P n o sr ops Q St rest xs (X :: r)) : W P n o sr ops Q St rest xs hs := by subst hX; exact W.exc x hx he k
theorem C.fold {β : Type} {φ : β → Prop} {Ps : β → List HProp} {r : List HProp} {c : Code} (X : HProp) (x : β) (hX : X = exL φ Ps) (hx : φ x) (he : Ent hs (Ps x) r) (k : C P n o Q c xs (X :: r)) : C P n o Q c xs hs := by subst hX; exact C.exc x hx he k
theorem E.fold {β : Type} {φ : β → Prop} {Ps : β → List HProp} {r : List HProp} {e : Exit} (X : HProp) (x : β) (hX : X = exL φ Ps) (hx : φ x) (he : Ent hs (Ps x) r) (k : E n o Q e xs (X :: r)) : E n o Q e xs hs := by subst hX; exact E.exc x hx he k
theorem W.unfold {β : Type} {φ : β → Prop} {Ps : β → List HProp} {r : List HProp} (X : HProp) (hX : X = exL φ Ps) (hf : Find hs X r) (k : ∀ x, φ x → W P n o sr ops Q St rest xs (Ps x ++ r)) : W P n o sr ops Q St rest xs hs := by subst hX; exact W.exo hf k
theorem C.unfold {β : Type} {φ : β → Prop} {Ps : β → List HProp} {r : List HProp} {c : Code} (X : HProp) (hX : X = exL φ Ps) (hf : Find hs X r) (k : ∀ x, φ x → C P n o Q c xs (Ps x ++ r)) : C P n o Q c xs hs := by subst hX; exact C.exo hf k
theorem quo64 {a b : Int} (h0 : 0 ≤ a) (hb : 0 < b) (h1 : a ≤ 9223372036854775807) : a / b = IntKind.i64.wrap (a.tdiv b) := by
  have h2 : a / b ≤ a := Int.ediv_le_self _ h0
  have h3 : 0 ≤ a / b := Int.ediv_nonneg h0 (Int.le_of_lt hb)
  rw [Int.tdiv_eq_ediv_of_nonneg h0, wrap64 (by omega) (by omega)]
theorem rem64 {a b : Int} (h0 : 0 ≤ a) : a % b = a.tmod b := (Int.tmod_eq_emod_of_nonneg h0).symm
theorem W.st8 {t e p c i : Nat} {x y : Operand} {m : Nat} {A : Option Addr} {l : List UInt8} {u : UInt8} {r : List HProp} [h1 : One P t] (hx : ev xs x = some (.pointer (some ⟨bk A, p, none⟩))) (hy : ev xs y = some (.int .u8 (m : Int)))
    (hf : Find hs (sl Enc.u8 e A c l) r) (hp : p = of A + i * 1) (hu : l[i]? = some u) (hm : m < 256)
    (hI : Keep (freeSt sr ops ⟨none, .store t x y, ty, pos, af, none⟩) St (sl Enc.u8 e A c (l.set i (UInt8.ofNat m)) :: r)) (k : W P n o sr ops Q St rest xs (sl Enc.u8 e A c (l.set i (UInt8.ofNat m)) :: r)) :
    W P n o sr ops Q St (⟨none, .store t x y, ty, pos, af, none⟩ :: rest) xs hs :=
  W.st (j := 0) (UInt8.ofNat m) hx hy rfl hf hp rfl hu rfl (by simp [Nat.mod_eq_of_lt hm]) hI k
theorem W.callr {f : FuncId} {args : List Value} {xargs : Array Operand} {ats : Array TypeId} {Pre Rs : List HProp} {q : Value → List HProp → Prop}
    [hc : Callable P f] (hargs : xargs.toList.map (ev xs) = args.map some) (he : Ent hs Pre Rs) (hd : fits n d = true) (hI : Incl St Rs) (hs0 : Trip P f args Pre q)
    (k : ∀ v Ps, q v Ps → W P n o sr ops Q St rest (put d v xs) (Ps ++ Rs)) :
    W P n o sr ops Q St (⟨d, .call { callee := .value (.func f), args := xargs, argTypes := ats }, ty, pos, af, none⟩ :: rest) xs hs := W.call hs0 hargs he hd hI k
theorem W.callk {f : FuncId} {args : List Value} {xargs : Array Operand} {ats : Array TypeId} {Pre Rs : List HProp} {q : Value → List HProp → Prop}
    [hc : Callable P f] (hargs : xargs.toList.map (ev xs) = args.map some) (he : Ent hs Pre Rs) (hd : fits n d = true) (hI : freeSt sr ops ⟨d, .call { callee := .value (.func f), args := xargs, argTypes := ats }, ty, pos, af, none⟩ = true) (hs0 : Trip P f args Pre q)
    (k : ∀ v Ps, q v Ps → W P n o sr ops Q St rest (put d v xs) (Ps ++ Rs)) :
    W P n o sr ops Q St (⟨d, .call { callee := .value (.func f), args := xargs, argTypes := ats }, ty, pos, af, none⟩ :: rest) xs hs := W.callo hs0 hargs he hd (.inl hI) k
theorem C.join {σ : Type} (I : σ → Prop) (X : σ → Env) (H : σ → List HProp) {c1 c2 : Code} (h1 : C P n o (Exit.then (fun a w => ∃ s, I s ∧ Ok n (X s) a ∧ Sat o w (H s)) Q) c1 xs hs)
    (h2 : ∀ s, I s → C P n o Q c2 (X s) (H s)) : C P n o Q (.seq c1 c2) xs hs := by
  refine C.seq ⟨fun a w ha hw => wp_mono (h1 a w ha hw) ?_⟩
  intro e a' w' hq
  cases e with
  | normal => obtain ⟨s, h0, hx, hh⟩ := hq; exact h2 s h0 a' w' hx hh
  | exit id => exact hq
  | goto l => exact hq
  | ret => exact hq
  | panic ch => exact hq
  | outgrown => exact hq
theorem E.join {σ : Type} {I : σ → Prop} {X : σ → Env} {H : σ → List HProp} (s : σ) (hi : I s) (hx : Sub (X s) xs) (hh : Ent hs (H s) []) :
    E n o (Exit.then (fun a w => ∃ s, I s ∧ Ok n (X s) a ∧ Sat o w (H s)) Q) .normal xs hs :=
  ⟨fun _ _ ha hw => ⟨s, hi, ha.sub hx, by have := hw.lift hh.lift; rwa [List.append_nil] at this⟩⟩
theorem C.cd_t {c : Operand} {x y : Code} {b : Bool} (hc : ev xs c = some (.bool b)) (hb : b = true) (k : C P n o Q x xs hs) : C P n o Q (.cond c x y) xs hs := by subst hb; exact C.cond_true hc k
theorem C.cd_f {c : Operand} {x y : Code} {b : Bool} (hc : ev xs c = some (.bool b)) (hb : b = false) (k : C P n o Q y xs hs) : C P n o Q (.cond c x y) xs hs := by subst hb; exact C.cond_false hc k
theorem W.gy {op : Op} {j : Nat} {want b : Bool} {t : Tmp} (hj : (ops[j]?).bind (·.dst) = some t) (hb : get xs t = some (.bool b)) (hw : b = want)
    (k : W P n o sr ops Q St (⟨d, op, ty, pos, af, none⟩ :: rest) xs hs) : W P n o sr ops Q St (⟨d, op, ty, pos, af, some (j, want)⟩ :: rest) xs hs := by subst hw; exact W.guard_yes hj hb k
theorem W.gn {op : Op} {j : Nat} {want b : Bool} {t : Tmp} (hj : (ops[j]?).bind (·.dst) = some t) (hb : get xs t = some (.bool b)) (hw : b = !want) (hd : fits n d = true)
    (k : W P n o sr ops Q St rest (put d undef xs) hs) : W P n o sr ops Q St (⟨d, op, ty, pos, af, some (j, want)⟩ :: rest) xs hs := W.guard_no hj hb hw hd k
theorem W.pk_t {c x y : Operand} {v : Value} {b : Bool} (hc : ev xs c = some (.bool b)) (hb : b = true) (hx : ev xs x = some v) (hd : fits n d = true) (k : W P n o sr ops Q St rest (put d v xs) hs) :
    W P n o sr ops Q St (⟨d, .pick c x y, ty, pos, af, none⟩ :: rest) xs hs := by subst hb; exact W.pick_true hc hx hd k
theorem W.pk_f {c x y : Operand} {v : Value} {b : Bool} (hc : ev xs c = some (.bool b)) (hb : b = false) (hx : ev xs y = some v) (hd : fits n d = true) (k : W P n o sr ops Q St rest (put d v xs) hs) :
    W P n o sr ops Q St (⟨d, .pick c x y, ty, pos, af, none⟩ :: rest) xs hs := by subst hb; exact W.pick_false hc hx hd k
theorem W.not_t {x : Operand} {t : TypeId} {b : Bool} (hx : ev xs x = some (.bool b)) (hb : b = true) (hd : fits n d = true) (k : W P n o sr ops Q St rest (put d (.bool false) xs) hs) : W P n o sr ops Q St (⟨d, .unOp .not t x, ty, pos, af, none⟩ :: rest) xs hs := by
  subst hb; exact W.not hx hd k
theorem W.not_f {x : Operand} {t : TypeId} {b : Bool} (hx : ev xs x = some (.bool b)) (hb : b = false) (hd : fits n d = true) (k : W P n o sr ops Q St rest (put d (.bool true) xs) hs) : W P n o sr ops Q St (⟨d, .unOp .not t x, ty, pos, af, none⟩ :: rest) xs hs := by
  subst hb; exact W.not hx hd k
theorem W.eqn_s {t t2 : TypeId} {x y : Operand} {a : Addr} [ht : PtrTy P t] (hx : ev xs x = some (.pointer (some a))) (hy : ev xs y = some (.pointer none)) (hd : fits n d = true)
    (k : W P n o sr ops Q St rest (put d (.bool false) xs) hs) : W P n o sr ops Q St (⟨d, .binOp .eql t x y t2, ty, pos, af, none⟩ :: rest) xs hs := W.eq_nil hx hy hd k
theorem W.eqn_n {t t2 : TypeId} {x y : Operand} [ht : PtrTy P t] (hx : ev xs x = some (.pointer none)) (hy : ev xs y = some (.pointer none)) (hd : fits n d = true)
    (k : W P n o sr ops Q St rest (put d (.bool true) xs) hs) : W P n o sr ops Q St (⟨d, .binOp .eql t x y t2, ty, pos, af, none⟩ :: rest) xs hs := W.eq_nil hx hy hd k
theorem W.nen_s {t t2 : TypeId} {x y : Operand} {a : Addr} [ht : PtrTy P t] (hx : ev xs x = some (.pointer (some a))) (hy : ev xs y = some (.pointer none)) (hd : fits n d = true)
    (k : W P n o sr ops Q St rest (put d (.bool true) xs) hs) : W P n o sr ops Q St (⟨d, .binOp .neq t x y t2, ty, pos, af, none⟩ :: rest) xs hs := W.ne_nil hx hy hd k
theorem W.nen_n {t t2 : TypeId} {x y : Operand} [ht : PtrTy P t] (hx : ev xs x = some (.pointer none)) (hy : ev xs y = some (.pointer none)) (hd : fits n d = true)
    (k : W P n o sr ops Q St rest (put d (.bool false) xs) hs) : W P n o sr ops Q St (⟨d, .binOp .neq t x y t2, ty, pos, af, none⟩ :: rest) xs hs := W.ne_nil hx hy hd k
theorem W.lda0 {t i m sz : Nat} {x : Operand} {α : Type} {En : Enc α} {A : Option Addr} {l : List α} {R : HProp} {y : α} [h1 : AggTy P t m] (hx : ev xs x = some (.pointer (some ⟨bk A, of A + i * sz, none⟩))) (hf : FindS hs R En A l) (hsz : En.sz = sz) (hy : l[i]? = some y)
    (hm : En.sz = m) (hns : stbD sr d = false) (hd : fits n d = true) (k : W P n o sr ops Q St rest (put d (.agg (En.f y).toArray) xs) hs) : W P n o sr ops Q St (⟨d, .load t x, ty, pos, af, none⟩ :: rest) xs hs :=
  W.lda (j := 0) (vs := En.f y) hx rfl hf hsz hy (by rw [List.drop_zero, List.take_of_length_le (by rw [En.len, hm]; exact Nat.le_refl _)]) (by rw [En.len, hm]) hns hd k
theorem W.lda0_stay {t i m sz : Nat} {x : Operand} {α : Type} {En : Enc α} {A : Option Addr} {l : List α} {R : HProp} {y : α} [h1 : AggTy P t m] (hx : ev xs x = some (.pointer (some ⟨bk A, of A + i * sz, none⟩))) (hf : FindS hs R En A l) (hsz : En.sz = sz) (hy : l[i]? = some y)
    (hm : En.sz = m) (hns : stbD sr d = true) (hd : fits n d = true) (k : W P n o sr ops Q (R :: St) rest (put d (.agg (En.f y).toArray) xs) hs) : W P n o sr ops Q St (⟨d, .load t x, ty, pos, af, none⟩ :: rest) xs hs := by
  subst hsz
  obtain ⟨⟨r, hfr⟩, hR⟩ := hf.mem
  refine W.stay rfl (by simp [kind]) hns hd hfr (fun a w ha hw => ?_) k
  obtain ⟨f, hf', hh⟩ := hw
  have hc : ∀ (j : Nat) (v : Value), (En.f y)[j]? = some v → w.cell? ⟨bk A, of A + i * En.sz + j, none⟩ = some v := fun j v hj => by
    have := reads_cell hR hy hj f w hf' hh
    rwa [← Nat.add_assoc] at this
  have hl := run_loadVar_agg (P := P) (t := t) (by rw [En.len, hm] : (En.f y).length = m) hc
  show ((Instr.loadAt t (a.eval x)) >>= fun v => pure (Next.value v)).run P w = _
  rw [ha.ev hx, Sem.run_bind]
  simp [Instr.loadAt, Instr.sureAddr, hl]
theorem W.agg_stay {t b T m : Nat} {x : Operand} {cs : List Value} {r : List HProp} [h1 : AggTy P t m] (hx : ev xs x = some (.pointer (some ⟨b, 0, none⟩))) (hf : Find hs (blk b T cs) r) (hm : cs.length = m)
    (hns : stbD sr d = true) (hd : fits n d = true) (k : W P n o sr ops Q (blk b T cs :: St) rest (put d (.agg cs.toArray) xs) hs) : W P n o sr ops Q St (⟨d, .load t x, ty, pos, af, none⟩ :: rest) xs hs :=
  W.stay rfl (by simp [kind]) hns hd hf (fun a w ha hw => by
    obtain ⟨f, ⟨fr, _, rfl⟩, hf⟩ := hw
    have hb := hf b _ (one_self _ _)
    have hc : ∀ (j : Nat) (v : Value), cs[j]? = some v → w.cell? ⟨b, 0 + j, none⟩ = some v := fun j v hv => by simp [World.cell?, hb, hv]
    have hl := run_loadVar_agg (P := P) (t := t) hm hc
    show ((Instr.loadAt t (a.eval x)) >>= fun v => pure (Next.value v)).run P w = _
    rw [ha.ev hx, Sem.run_bind]
    simp [Instr.loadAt, Instr.sureAddr, hl]) k
theorem W.stb {t e p c i : Nat} {x y : Operand} {b : Bool} {A : Option Addr} {l : List Bool} {u : Bool} {r : List HProp} [h1 : One P t] (hx : ev xs x = some (.pointer (some ⟨bk A, p, none⟩))) (hy : ev xs y = some (.bool b))
    (hf : Find hs (sl Enc.bool e A c l) r) (hp : p = of A + i * 1) (hu : l[i]? = some u)
    (hI : Keep (freeSt sr ops ⟨none, .store t x y, ty, pos, af, none⟩) St (sl Enc.bool e A c (l.set i b) :: r)) (k : W P n o sr ops Q St rest xs (sl Enc.bool e A c (l.set i b) :: r)) :
    W P n o sr ops Q St (⟨none, .store t x y, ty, pos, af, none⟩ :: rest) xs hs :=
  W.st (j := 0) b hx hy rfl hf hp rfl hu rfl rfl hI k
theorem W.ixs {t : TypeId} {x ix : Operand} {s : List UInt8} {i : Int} {kd : IntKind} {c : UInt8} {q : Nat} [ht : StrTy P t] (hx : ev xs x = some (str s)) (hi : ev xs ix = some (.int kd i)) (h0 : 0 ≤ i) (hq : i.toNat = q) (hc : s[q]? = some c) (hd : fits n d = true)
    (k : W P n o sr ops Q St rest (put d (.int .u8 (c.toNat : Int)) xs) hs) : W P n o sr ops Q St (⟨d, .index t x ix, ty, pos, af, none⟩ :: rest) xs hs := by
  subst hq; exact W.index_str hx hi h0 hc hd k
theorem W.ixv {t L e : Nat} {x ix : Operand} {vs : List Value} {i : Int} {kd : IntKind} {v : Value} {q : Nat} [ht : ArrTy P t L e 1] [h1 : One P e] (hx : ev xs x = some (.agg vs.toArray)) (hi : ev xs ix = some (.int kd i)) (h0 : 0 ≤ i) (hL : i < L) (hq : i.toNat = q) (hv : vs[q]? = some v) (hd : fits n d = true)
    (k : W P n o sr ops Q St rest (put d v xs) hs) : W P n o sr ops Q St (⟨d, .index t x ix, ty, pos, af, none⟩ :: rest) xs hs :=
  W.val rfl (by simp [kind]) hd (fun ac w ha => by
    subst hq
    show ((Instr.index t (ac.eval x) (ac.eval ix)) >>= fun v => pure (Next.value v)).run P w = _
    obtain ⟨inf, hi2, hsz⟩ := ht.info
    have hp : (part e vs.toArray (i.toNat * 1)).run P w = .ok v w := by
      have h := h1.agg w
      simp [part, h, hv]
    rw [ha.ev hx, ha.ev hi, Sem.run_bind]
    have hs : (sizeOf e).run P w = .ok 1 w := by simp [sizeOf, typeInfo, hi2, hsz]
    simp [Instr.index, asIntOf, run_underlying ht.und, h0, hL, hs]
    simp only [Nat.mul_one] at hp
    simp [hp]) k
theorem ari8_add {a b z : Int} (h : z = a + b) (h1 : 0 ≤ z) (h2 : z ≤ 255) : ariI .add .u8 a b = some z := by
  subst h; simp only [ariI]; rw [wrapu rfl h1 (by show a + b < 256; omega)]
theorem ari8_sub {a b z : Int} (h : z = a - b) (h1 : 0 ≤ z) (h2 : z ≤ 255) : ariI .sub .u8 a b = some z := by
  subst h; simp only [ariI]; rw [wrapu rfl h1 (by show a - b < 256; omega)]
theorem ariu_add {a b z : Int} (h : z = a + b) (h1 : 0 ≤ z) (h2 : z ≤ 18446744073709551615) : ariI .add .u64 a b = some z := by
  subst h; simp only [ariI]; rw [wrapu rfl h1 (by show a + b < 18446744073709551616; omega)]
theorem ariu_sub {a b z : Int} (h : z = a - b) (h1 : 0 ≤ z) (h2 : z ≤ 18446744073709551615) : ariI .sub .u64 a b = some z := by
  subst h; simp only [ariI]; rw [wrapu rfl h1 (by show a - b < 18446744073709551616; omega)]
theorem W.gu {op : Op} {j : Nat} {want : Bool} {t : Tmp} (hj : (ops[j]?).bind (·.dst) = some t) (hb : get xs t = some undef) (hd : fits n d = true)
    (k : W P n o sr ops Q St rest (put d undef xs) hs) : W P n o sr ops Q St (⟨d, op, ty, pos, af, some (j, want)⟩ :: rest) xs hs := by
  constructor; intro a w ha hw
  have h1 : yielded ops a.tmps j = none := by simp [yielded, hj, ha.get t _ hb, undef]
  rw [wpK, if_neg (by simp [Region.wanted, h1])]
  exact k _ _ (ha.put hd _) hw
theorem W.bs {src dst e m : Nat} {x : Operand} {A : Option Addr} {c : Nat} {l : List UInt8} {R : HProp} [hb : BytesTy P src e] [ht : StrTy P dst] (hx : ev xs x = some (.slice A m c))
    (hf : FindS hs R Enc.u8 A l) (hm : m = l.length) (hns : stbD sr d = false) (hd : fits n d = true) (k : W P n o sr ops Q St rest (put d (str l) xs) hs) :
    W P n o sr ops Q St (⟨d, .convert src dst x, ty, pos, af, none⟩ :: rest) xs hs := by
  obtain ⟨⟨r, hfr⟩, hR⟩ := hf.mem
  subst hm
  exact W.bytes_str hx hfr hR hns hd k
theorem W.st8z {t e p c i : Nat} {x y : Operand} {z : Int} {A : Option Addr} {l : List UInt8} {u : UInt8} {r : List HProp} [h1 : One P t] (hx : ev xs x = some (.pointer (some ⟨bk A, p, none⟩))) (hy : ev xs y = some (.int .u8 z))
    (hf : Find hs (sl Enc.u8 e A c l) r) (hp : p = of A + i * 1) (hu : l[i]? = some u) (h0 : 0 ≤ z) (hm : z < 256)
    (hI : Keep (freeSt sr ops ⟨none, .store t x y, ty, pos, af, none⟩) St (sl Enc.u8 e A c (l.set i (UInt8.ofNat z.toNat)) :: r)) (k : W P n o sr ops Q St rest xs (sl Enc.u8 e A c (l.set i (UInt8.ofNat z.toNat)) :: r)) :
    W P n o sr ops Q St (⟨none, .store t x y, ty, pos, af, none⟩ :: rest) xs hs := by
  obtain ⟨m, rfl⟩ := Int.eq_ofNat_of_zero_le h0
  exact W.st8 hx hy hf hp hu (by omega) hI (by simpa using k)
theorem W.ss2 {t : TypeId} {x lo hi : Operand} {s : List UInt8} {a' b' : Int} {a b : Nat} {ka kb : IntKind} [ht : StrTy P t] (hx : ev xs x = some (str s)) (hlo : ev xs lo = some (.int ka a')) (hhi : ev xs hi = some (.int kb b')) (h0 : 0 ≤ a') (h1 : a' ≤ b') (h2 : b' ≤ s.length)
    (ha : a'.toNat = a) (hb : b'.toNat = b) (hd : fits n d = true) (k : W P n o sr ops Q St rest (put d (str ((s.drop a).take (b - a))) xs) hs) : W P n o sr ops Q St (⟨d, .slice t x (some lo) (some hi) none, ty, pos, af, none⟩ :: rest) xs hs := by
  subst ha hb; exact W.slice_str hx (.inr ⟨lo, rfl, hlo⟩) (.inr ⟨hi, rfl, hhi⟩) h0 h1 h2 hd k
theorem W.ss1 {t : TypeId} {x lo : Operand} {s : List UInt8} {a' : Int} {a : Nat} {ka : IntKind} [ht : StrTy P t] (hx : ev xs x = some (str s)) (hlo : ev xs lo = some (.int ka a')) (h0 : 0 ≤ a') (h1 : a' ≤ s.length)
    (ha : a'.toNat = a) (hd : fits n d = true) (k : W P n o sr ops Q St rest (put d (str (s.drop a)) xs) hs) : W P n o sr ops Q St (⟨d, .slice t x (some lo) none none, ty, pos, af, none⟩ :: rest) xs hs := by
  subst ha
  refine W.slice_str (kb := .i64) (b := s.length) hx (.inr ⟨lo, rfl, hlo⟩) (.inl ⟨rfl, rfl⟩) h0 h1 (Int.le_refl _) hd ?_
  rw [Int.toNat_natCast, List.take_of_length_le (by rw [List.length_drop]; exact Nat.le_refl _)]; exact k
theorem W.ss0 {t : TypeId} {x hi : Operand} {s : List UInt8} {b' : Int} {b : Nat} {kb : IntKind} [ht : StrTy P t] (hx : ev xs x = some (str s)) (hhi : ev xs hi = some (.int kb b')) (h0 : 0 ≤ b') (h1 : b' ≤ s.length)
    (hb : b'.toNat = b) (hd : fits n d = true) (k : W P n o sr ops Q St rest (put d (str (s.take b)) xs) hs) : W P n o sr ops Q St (⟨d, .slice t x none (some hi) none, ty, pos, af, none⟩ :: rest) xs hs := by
  subst hb
  refine W.slice_str (ka := .i64) (a := 0) hx (.inl ⟨rfl, rfl⟩) (.inr ⟨hi, rfl, hhi⟩) (Int.le_refl _) h0 h1 hd ?_
  exact k
theorem W.sts {t e p c i : Nat} {x y : Operand} {b : List UInt8} {A : Option Addr} {l : List (List UInt8)} {u : List UInt8} {r : List HProp} [h1 : One P t] (hx : ev xs x = some (.pointer (some ⟨bk A, p, none⟩))) (hy : ev xs y = some (str b))
    (hf : Find hs (sl Enc.str e A c l) r) (hp : p = of A + i * 1) (hu : l[i]? = some u)
    (hI : Keep (freeSt sr ops ⟨none, .store t x y, ty, pos, af, none⟩) St (sl Enc.str e A c (l.set i b) :: r)) (k : W P n o sr ops Q St rest xs (sl Enc.str e A c (l.set i b) :: r)) :
    W P n o sr ops Q St (⟨none, .store t x y, ty, pos, af, none⟩ :: rest) xs hs :=
  W.st (j := 0) b hx hy rfl hf hp rfl hu rfl rfl hI k
theorem W.app {α : Type} {En : Enc α} {A A2 : Option Addr} {c c2 m m2 t e sz by_ : Nat} {l l2 : List α} {R2 : HProp} {r : List HProp} {x y : Operand} [ht : SliceTy P t e sz by_] (hx : ev xs x = some (.slice A m c)) (hy : ev xs y = some (.slice A2 m2 c2))
    (hf : Find hs (sl En e A c l) r) (hf2 : FindS hs R2 En A2 l2) (hsz : En.sz = sz) (hm : m = l.length) (hm2 : m2 = l2.length) (hb : (l.length + l2.length) * by_ ≤ 140737488355328) (hmm : l.length + l2.length ≤ 140737488355328) (hd : fits n d = true) (hI : Incl St r)
    (k : ∀ A' c', W P n o sr ops Q St rest (put d (.slice A' (l ++ l2).length c') xs) (sl En e A' c' (l ++ l2) :: r)) :
    W P n o sr ops Q St (⟨d, .call { callee := .builtin .append, args := #[x, y], argTypes := #[t, t] }, ty, pos, af, none⟩ :: rest) xs hs := by
  subst hsz hm hm2
  obtain ⟨⟨r2, hfr⟩, hR⟩ := hf2.mem
  exact W.append hx hf hy hfr hR hb hmm hd hI k
theorem W.app0 {α : Type} {En : Enc α} {A2 : Option Addr} {c2 m2 t e sz by_ : Nat} {l2 : List α} {R2 : HProp} {x y : Operand} [ht : SliceTy P t e sz by_] (hx : ev xs x = some (.slice none 0 0)) (hy : ev xs y = some (.slice A2 m2 c2))
    (hf2 : FindS hs R2 En A2 l2) (hsz : En.sz = sz) (hm2 : m2 = l2.length) (hb : l2.length * by_ ≤ 140737488355328) (hmm : l2.length ≤ 140737488355328) (hd : fits n d = true) (hI : Incl St hs)
    (k : ∀ A' c', W P n o sr ops Q St rest (put d (.slice A' l2.length c') xs) (sl En e A' c' l2 :: hs)) :
    W P n o sr ops Q St (⟨d, .call { callee := .builtin .append, args := #[x, y], argTypes := #[t, t] }, ty, pos, af, none⟩ :: rest) xs hs := by
  subst hsz hm2
  obtain ⟨⟨r2, hfr⟩, hR⟩ := hf2.mem
  exact W.append_nil hx hy hfr hR hb hmm hd hI k
theorem rem64n {a b : Int} (h0 : a ≤ 0) : -(-a % b) = a.tmod b := by
  obtain ⟨u, hu⟩ := Int.eq_ofNat_of_zero_le (by omega : 0 ≤ -a)
  have ha : a = -(u : Int) := by omega
  subst ha
  rw [Int.neg_tmod, Int.neg_neg, Int.tmod_eq_emod_of_nonneg (Int.natCast_nonneg u)]
theorem quo64n {a b : Int} (h0 : a ≤ 0) (hb : 0 < b) (h1 : -9223372036854775808 ≤ a) : -(-a / b) = IntKind.i64.wrap (a.tdiv b) := by
  obtain ⟨u, hu⟩ := Int.eq_ofNat_of_zero_le (by omega : 0 ≤ -a)
  have ha : a = -(u : Int) := by omega
  subst ha
  rw [Int.neg_tdiv, Int.neg_neg, Int.tdiv_eq_ediv_of_nonneg (Int.natCast_nonneg u)]
  have h2 : (u : Int) / b ≤ u := Int.ediv_le_self _ (Int.natCast_nonneg u)
  have h3 : 0 ≤ (u : Int) / b := Int.ediv_nonneg (Int.natCast_nonneg u) (Int.le_of_lt hb)
  rw [wrap64 (by omega) (by omega)]
theorem W.neg {t : TypeId} {x : Operand} {a z : Int} (hx : ev xs x = some (.int .i64 a)) (hz : z = -a) (h1 : -9223372036854775808 ≤ z) (h2 : z ≤ 9223372036854775807) (hd : fits n d = true)
    (k : W P n o sr ops Q St rest (put d (.int .i64 z) xs) hs) : W P n o sr ops Q St (⟨d, .unOp .neg t x, ty, pos, af, none⟩ :: rest) xs hs :=
  W.val rfl (by simp [kind]) hd (fun ac w ha => by
    subst hz
    have h3 : IntKind.i64.wrap (0 - a) = -a := by rw [wrap64 (by omega) (by omega)]; omega
    simp [execOp, Op.unary, ha.ev hx, Op.intArith, h3]
    first | done | (have h4 : IntKind.i64.wrap (-a) = -a := wrap64 h1 h2; simp [h4])) k
theorem wrap8 {a : Int} (h1 : 0 ≤ a) (h2 : a ≤ 255) : IntKind.u8.wrap a = a := wrapu rfl h1 (by show a < 256; omega)
theorem W.sl8 {t e by_ : Nat} {x : Operand} {z : Int} [ht : SliceTy P t e 1 by_] (hx : ev xs x = some (.int .u8 z)) (h0 : 0 ≤ z) (h1 : z ≤ 255) (hd : fits n d = true) (hI : Incl St hs)
    (k : ∀ b, W P n o sr ops Q St rest (put d (.slice (some ⟨b, 0, none⟩) 1 1) xs) (sl Enc.u8 e (some ⟨b, 0, none⟩) 1 [UInt8.ofNat z.toNat] :: hs)) :
    W P n o sr ops Q St (⟨d, .buildSlice t 1 #[(0, x)], ty, pos, af, none⟩ :: rest) xs hs := by
  refine W.slice1 (ht := ht) Enc.u8 (UInt8.ofNat z.toNat) hx ?_ rfl hd hI k
  have : (UInt8.ofNat z.toNat).toNat = z.toNat := by rw [UInt8.toNat_ofNat']; exact Nat.mod_eq_of_lt (by omega)
  show [Value.int .u8 z] = [Value.int .u8 ((UInt8.ofNat z.toNat).toNat : Int)]
  rw [this, Int.toNat_of_nonneg h0]
theorem tok_refl (i : Int) : i.toNat = i.toNat := rfl
def evp (xs : Env) : List (Nat × Operand) → Option (List (Nat × Value))
  | [] => some []
  | (i, x) :: r => match ev xs x, evp xs r with | some v, some l => some ((i, v) :: l) | _, _ => none
theorem evp_map {xs : Env} : ∀ {ps : List (Nat × Operand)} {es : List (Nat × Value)}, evp xs ps = some es → ps.map (fun p => (p.1, ev xs p.2)) = es.map (fun p => (p.1, some p.2))
  | [], es, h => by cases h; rfl
  | (i, x) :: r, es, h => by
    simp only [evp] at h
    split at h
    · rename_i v l hv hl
      cases h
      simp only [List.map_cons, hv, evp_map hl]
    · cases h
theorem W.bld {t : TypeId} {parts : Array (Nat × Operand)} {es : List (Nat × Value)} {z : List Value} {offs : List (Nat × Nat)} {cells : Array Value} [ht : StructTy P t z offs]
    (hp : evp xs parts.toList = some es) (hf : Instr.fill (offs[·]?) z.toArray es = some cells) (hd : fits n d = true)
    (k : W P n o sr ops Q St rest (put d (.agg cells) xs) hs) : W P n o sr ops Q St (⟨d, .build t parts, ty, pos, af, none⟩ :: rest) xs hs :=
  W.build (evp_map hp) hf hd k
theorem W.shr {t t2 : TypeId} {x y : Operand} {kd ky : IntKind} {a m : Nat} {a' y' : Int} (hx : ev xs x = some (.int kd a')) (hy : ev xs y = some (.int ky y')) (ha : a' = (a : Int)) (hm : y' = (m : Int)) (hlt : m ≤ kd.bits) (hd : fits n d = true)
    (k : W P n o sr ops Q St rest (put d (.int kd ((a / 2 ^ m : Nat) : Int)) xs) hs) : W P n o sr ops Q St (⟨d, .binOp .shr t x y t2, ty, pos, af, none⟩ :: rest) xs hs :=
  W.val rfl kind_cmp hd (fun ac w hac => by
    subst ha hm
    show ((do eqGuard .shr t x y (ac.eval x) (ac.eval y); binOp .shr t (ac.eval x) (ac.eval y) : Sem Value) >>= fun v => pure (Next.value v)).run P w = _
    rw [hac.ev hx, hac.ev hy, Sem.run_bind]
    have h1 : ¬ ((m : Int) < 0) := by omega
    have h2 : ((a : Int).fdiv (2 ^ m)) = ((a / 2 ^ m : Nat) : Int) := by
      have h3 : ((2 : Int) ^ m) = ((2 ^ m : Nat) : Int) := by simp
      rw [h3, Int.fdiv_eq_ediv_of_nonneg _ (Int.natCast_nonneg _)]; rfl
    simp [eqGuard, binOp, Op.shift, h1, Nat.min_eq_left hlt, h2]) k
theorem W.shl {t t2 : TypeId} {x y : Operand} {kd ky : IntKind} {a m : Nat} {a' y' z : Int} (hx : ev xs x = some (.int kd a')) (hy : ev xs y = some (.int ky y')) (ha : a' = (a : Int)) (hm : y' = (m : Int)) (hlt : m ≤ kd.bits) (hz : z = kd.wrap ((a * 2 ^ m : Nat) : Int)) (hd : fits n d = true)
    (k : W P n o sr ops Q St rest (put d (.int kd z) xs) hs) : W P n o sr ops Q St (⟨d, .binOp .shl t x y t2, ty, pos, af, none⟩ :: rest) xs hs :=
  W.val rfl kind_cmp hd (fun ac w hac => by
    subst ha hm hz
    show ((do eqGuard .shl t x y (ac.eval x) (ac.eval y); binOp .shl t (ac.eval x) (ac.eval y) : Sem Value) >>= fun v => pure (Next.value v)).run P w = _
    rw [hac.ev hx, hac.ev hy, Sem.run_bind]
    have h1 : ¬ ((m : Int) < 0) := by omega
    simp [eqGuard, binOp, Op.shift, h1, Nat.min_eq_left hlt]) k
end
end Go.SL
namespace Go.Proofs.YtflmbhkjhfmeoaaGreat
open Go Go.SL
instance : One Tryz.prog 0 := .of (by kernel_rfl)
instance : One Tryz.prog 1 := .of (by kernel_rfl)
instance : One Tryz.prog 2 := .of (by kernel_rfl)
instance : Zero Tryz.prog 2 (.int .i64 0) := .of (by kernel_rfl)
instance : IntTy Tryz.prog 2 .i64 := ⟨by kernel_rfl⟩
instance : One Tryz.prog 3 := .of (by kernel_rfl)
instance : Zero Tryz.prog 3 (.int .i64 0) := .of (by kernel_rfl)
instance : IntTy Tryz.prog 3 .i64 := ⟨by kernel_rfl⟩
instance : One Tryz.prog 4 := .of (by kernel_rfl)
instance : Zero Tryz.prog 4 (.bool false) := .of (by kernel_rfl)
instance : BoolTy Tryz.prog 4 := ⟨by kernel_rfl⟩
instance : One Tryz.prog 5 := .of (by kernel_rfl)
instance : Zero Tryz.prog 5 (.int .u8 0) := .of (by kernel_rfl)
instance : IntTy Tryz.prog 5 .u8 := ⟨by kernel_rfl⟩
instance : One Tryz.prog 6 := .of (by kernel_rfl)
instance : Zero Tryz.prog 6 (.int .u8 0) := .of (by kernel_rfl)
instance : IntTy Tryz.prog 6 .u8 := ⟨by kernel_rfl⟩
instance : AggTy Tryz.prog 7 4 := .of (by kernel_rfl)
instance : StructTy Tryz.prog 7 [.int .i64 0, .int .i64 0, .bool false, .int .u8 0] [(0, 1), (1, 1), (2, 1), (3, 1)] := .of (by kernel_rfl)
instance : FlatTy Tryz.prog 7 [.i .i64, .i .i64, .b, .i .u8] := ⟨by kernel_rfl⟩
instance : Zero Tryz.prog 7 (.agg #[.int .i64 0, .int .i64 0, .bool false, .int .u8 0]) := .of (by kernel_rfl)
instance : FieldOff Tryz.prog 7 0 0 := .of (by kernel_rfl)
instance : FieldOne Tryz.prog 7 0 0 := .of (by kernel_rfl)
instance : FieldOff Tryz.prog 7 1 1 := .of (by kernel_rfl)
instance : FieldOne Tryz.prog 7 1 1 := .of (by kernel_rfl)
instance : FieldOff Tryz.prog 7 2 2 := .of (by kernel_rfl)
instance : FieldOne Tryz.prog 7 2 2 := .of (by kernel_rfl)
instance : FieldOff Tryz.prog 7 3 3 := .of (by kernel_rfl)
instance : FieldOne Tryz.prog 7 3 3 := .of (by kernel_rfl)
instance : AggTy Tryz.prog 8 4 := .of (by kernel_rfl)
instance : StructTy Tryz.prog 8 [.int .i64 0, .int .i64 0, .bool false, .int .u8 0] [(0, 1), (1, 1), (2, 1), (3, 1)] := .of (by kernel_rfl)
instance : FlatTy Tryz.prog 8 [.i .i64, .i .i64, .b, .i .u8] := ⟨by kernel_rfl⟩
instance : Zero Tryz.prog 8 (.agg #[.int .i64 0, .int .i64 0, .bool false, .int .u8 0]) := .of (by kernel_rfl)
instance : FieldOff Tryz.prog 8 0 0 := .of (by kernel_rfl)
instance : FieldOne Tryz.prog 8 0 0 := .of (by kernel_rfl)
instance : FieldOff Tryz.prog 8 1 1 := .of (by kernel_rfl)
instance : FieldOne Tryz.prog 8 1 1 := .of (by kernel_rfl)
instance : FieldOff Tryz.prog 8 2 2 := .of (by kernel_rfl)
instance : FieldOne Tryz.prog 8 2 2 := .of (by kernel_rfl)
instance : FieldOff Tryz.prog 8 3 3 := .of (by kernel_rfl)
instance : FieldOne Tryz.prog 8 3 3 := .of (by kernel_rfl)
instance : One Tryz.prog 9 := .of (by kernel_rfl)
instance : Zero Tryz.prog 9 (str []) := .of (by kernel_rfl)
instance : StrTy Tryz.prog 9 := ⟨by kernel_rfl⟩
instance : One Tryz.prog 10 := .of (by kernel_rfl)
instance : Zero Tryz.prog 10 (str []) := .of (by kernel_rfl)
instance : StrTy Tryz.prog 10 := ⟨by kernel_rfl⟩
instance : One Tryz.prog 11 := .of (by kernel_rfl)
instance : Zero Tryz.prog 11 (str []) := .of (by kernel_rfl)
instance : StrTy Tryz.prog 11 := ⟨by kernel_rfl⟩
instance : One Tryz.prog 12 := .of (by kernel_rfl)
instance : Zero Tryz.prog 12 (.int .u64 0) := .of (by kernel_rfl)
instance : IntTy Tryz.prog 12 .u64 := ⟨by kernel_rfl⟩
instance : AggTy Tryz.prog 13 2 := .of (by kernel_rfl)
instance : StructTy Tryz.prog 13 [str [], .int .u64 0] [(0, 1), (1, 1)] := .of (by kernel_rfl)
instance : Zero Tryz.prog 13 (.agg #[str [], .int .u64 0]) := .of (by kernel_rfl)
instance : FieldOff Tryz.prog 13 0 0 := .of (by kernel_rfl)
instance : FieldOne Tryz.prog 13 0 0 := .of (by kernel_rfl)
instance : FieldOff Tryz.prog 13 1 1 := .of (by kernel_rfl)
instance : FieldOne Tryz.prog 13 1 1 := .of (by kernel_rfl)
instance : AggTy Tryz.prog 14 2 := .of (by kernel_rfl)
instance : StructTy Tryz.prog 14 [str [], .int .u64 0] [(0, 1), (1, 1)] := .of (by kernel_rfl)
instance : Zero Tryz.prog 14 (.agg #[str [], .int .u64 0]) := .of (by kernel_rfl)
instance : FieldOff Tryz.prog 14 0 0 := .of (by kernel_rfl)
instance : FieldOne Tryz.prog 14 0 0 := .of (by kernel_rfl)
instance : FieldOff Tryz.prog 14 1 1 := .of (by kernel_rfl)
instance : FieldOne Tryz.prog 14 1 1 := .of (by kernel_rfl)
instance : One Tryz.prog 15 := .of (by kernel_rfl)
instance : Zero Tryz.prog 15 (.pointer none) := .of (by kernel_rfl)
instance : PtrTy Tryz.prog 15 := ⟨by kernel_rfl⟩
instance : One Tryz.prog 16 := .of (by kernel_rfl)
instance : Zero Tryz.prog 16 (.pointer none) := .of (by kernel_rfl)
instance : PtrTy Tryz.prog 16 := ⟨by kernel_rfl⟩
instance : One Tryz.prog 17 := .of (by kernel_rfl)
instance : Zero Tryz.prog 17 (.pointer none) := .of (by kernel_rfl)
instance : PtrTy Tryz.prog 17 := ⟨by kernel_rfl⟩
instance : AggTy Tryz.prog 18 1 := .of (by kernel_rfl)
instance : StructTy Tryz.prog 18 [.pointer none] [(0, 1)] := .of (by kernel_rfl)
instance : Zero Tryz.prog 18 (.agg #[.pointer none]) := .of (by kernel_rfl)
instance : FieldOff Tryz.prog 18 0 0 := .of (by kernel_rfl)
instance : FieldOne Tryz.prog 18 0 0 := .of (by kernel_rfl)
instance : AggTy Tryz.prog 19 1 := .of (by kernel_rfl)
instance : StructTy Tryz.prog 19 [.pointer none] [(0, 1)] := .of (by kernel_rfl)
instance : Zero Tryz.prog 19 (.agg #[.pointer none]) := .of (by kernel_rfl)
instance : FieldOff Tryz.prog 19 0 0 := .of (by kernel_rfl)
instance : FieldOne Tryz.prog 19 0 0 := .of (by kernel_rfl)
instance : One Tryz.prog 20 := .of (by kernel_rfl)
instance : Zero Tryz.prog 20 .nilIface := .of (by kernel_rfl)
instance : IfaceTy Tryz.prog 20 := .of (by kernel_rfl)
instance : One Tryz.prog 21 := .of (by kernel_rfl)
instance : Zero Tryz.prog 21 (.int .i32 0) := .of (by kernel_rfl)
instance : IntTy Tryz.prog 21 .i32 := ⟨by kernel_rfl⟩
instance : One Tryz.prog 22 := .of (by kernel_rfl)
instance : SliceTy Tryz.prog 22 75 4 64 := .of (by kernel_rfl)
instance : Zero Tryz.prog 22 (.slice none 0 0) := .of (by kernel_rfl)
instance : One Tryz.prog 23 := .of (by kernel_rfl)
instance : One Tryz.prog 24 := .of (by kernel_rfl)
instance : Zero Tryz.prog 24 (.pointer none) := .of (by kernel_rfl)
instance : PtrTy Tryz.prog 24 := ⟨by kernel_rfl⟩
instance : One Tryz.prog 25 := .of (by kernel_rfl)
instance : One Tryz.prog 26 := .of (by kernel_rfl)
instance : Zero Tryz.prog 26 (.pointer none) := .of (by kernel_rfl)
instance : PtrTy Tryz.prog 26 := ⟨by kernel_rfl⟩
instance : One Tryz.prog 27 := .of (by kernel_rfl)
instance : One Tryz.prog 28 := .of (by kernel_rfl)
instance : Zero Tryz.prog 28 (.pointer none) := .of (by kernel_rfl)
instance : PtrTy Tryz.prog 28 := ⟨by kernel_rfl⟩
instance : One Tryz.prog 29 := .of (by kernel_rfl)
instance : One Tryz.prog 30 := .of (by kernel_rfl)
instance : SliceTy Tryz.prog 30 78 2 32 := .of (by kernel_rfl)
instance : Zero Tryz.prog 30 (.slice none 0 0) := .of (by kernel_rfl)
instance : AggTy Tryz.prog 31 4 := .of (by kernel_rfl)
instance : StructTy Tryz.prog 31 [.pointer none, .pointer none, .slice none 0 0, .int .i64 0] [(0, 1), (1, 1), (2, 1), (3, 1)] := .of (by kernel_rfl)
instance : Zero Tryz.prog 31 (.agg #[.pointer none, .pointer none, .slice none 0 0, .int .i64 0]) := .of (by kernel_rfl)
instance : FieldOff Tryz.prog 31 0 0 := .of (by kernel_rfl)
instance : FieldOne Tryz.prog 31 0 0 := .of (by kernel_rfl)
instance : FieldOff Tryz.prog 31 1 1 := .of (by kernel_rfl)
instance : FieldOne Tryz.prog 31 1 1 := .of (by kernel_rfl)
instance : FieldOff Tryz.prog 31 2 2 := .of (by kernel_rfl)
instance : FieldOne Tryz.prog 31 2 2 := .of (by kernel_rfl)
instance : FieldOff Tryz.prog 31 3 3 := .of (by kernel_rfl)
instance : FieldOne Tryz.prog 31 3 3 := .of (by kernel_rfl)
instance : AggTy Tryz.prog 32 4 := .of (by kernel_rfl)
instance : StructTy Tryz.prog 32 [.pointer none, .pointer none, .slice none 0 0, .int .i64 0] [(0, 1), (1, 1), (2, 1), (3, 1)] := .of (by kernel_rfl)
instance : Zero Tryz.prog 32 (.agg #[.pointer none, .pointer none, .slice none 0 0, .int .i64 0]) := .of (by kernel_rfl)
instance : FieldOff Tryz.prog 32 0 0 := .of (by kernel_rfl)
instance : FieldOne Tryz.prog 32 0 0 := .of (by kernel_rfl)
instance : FieldOff Tryz.prog 32 1 1 := .of (by kernel_rfl)
instance : FieldOne Tryz.prog 32 1 1 := .of (by kernel_rfl)
instance : FieldOff Tryz.prog 32 2 2 := .of (by kernel_rfl)
instance : FieldOne Tryz.prog 32 2 2 := .of (by kernel_rfl)
instance : FieldOff Tryz.prog 32 3 3 := .of (by kernel_rfl)
instance : FieldOne Tryz.prog 32 3 3 := .of (by kernel_rfl)
instance : One Tryz.prog 33 := .of (by kernel_rfl)
instance : One Tryz.prog 34 := .of (by kernel_rfl)
instance : One Tryz.prog 35 := .of (by kernel_rfl)
instance : One Tryz.prog 36 := .of (by kernel_rfl)
instance : One Tryz.prog 37 := .of (by kernel_rfl)
instance : One Tryz.prog 38 := .of (by kernel_rfl)
instance : One Tryz.prog 39 := .of (by kernel_rfl)
instance : One Tryz.prog 40 := .of (by kernel_rfl)
instance : One Tryz.prog 41 := .of (by kernel_rfl)
instance : SliceTy Tryz.prog 41 3 1 8 := .of (by kernel_rfl)
instance : Zero Tryz.prog 41 (.slice none 0 0) := .of (by kernel_rfl)
instance : One Tryz.prog 42 := .of (by kernel_rfl)
instance : Zero Tryz.prog 42 (.pointer none) := .of (by kernel_rfl)
instance : PtrTy Tryz.prog 42 := ⟨by kernel_rfl⟩
instance : One Tryz.prog 43 := .of (by kernel_rfl)
instance : One Tryz.prog 44 := .of (by kernel_rfl)
instance : Zero Tryz.prog 44 (.pointer none) := .of (by kernel_rfl)
instance : PtrTy Tryz.prog 44 := ⟨by kernel_rfl⟩
instance : AggTy Tryz.prog 45 2 := .of (by kernel_rfl)
instance : StructTy Tryz.prog 45 [.slice none 0 0, .int .i64 0] [(0, 1), (1, 1)] := .of (by kernel_rfl)
instance : Zero Tryz.prog 45 (.agg #[.slice none 0 0, .int .i64 0]) := .of (by kernel_rfl)
instance : FieldOff Tryz.prog 45 0 0 := .of (by kernel_rfl)
instance : FieldOne Tryz.prog 45 0 0 := .of (by kernel_rfl)
instance : FieldOff Tryz.prog 45 1 1 := .of (by kernel_rfl)
instance : FieldOne Tryz.prog 45 1 1 := .of (by kernel_rfl)
instance : AggTy Tryz.prog 46 2 := .of (by kernel_rfl)
instance : StructTy Tryz.prog 46 [.slice none 0 0, .int .i64 0] [(0, 1), (1, 1)] := .of (by kernel_rfl)
instance : Zero Tryz.prog 46 (.agg #[.slice none 0 0, .int .i64 0]) := .of (by kernel_rfl)
instance : FieldOff Tryz.prog 46 0 0 := .of (by kernel_rfl)
instance : FieldOne Tryz.prog 46 0 0 := .of (by kernel_rfl)
instance : FieldOff Tryz.prog 46 1 1 := .of (by kernel_rfl)
instance : FieldOne Tryz.prog 46 1 1 := .of (by kernel_rfl)
instance : One Tryz.prog 47 := .of (by kernel_rfl)
instance : One Tryz.prog 48 := .of (by kernel_rfl)
instance : One Tryz.prog 49 := .of (by kernel_rfl)
instance : One Tryz.prog 50 := .of (by kernel_rfl)
instance : One Tryz.prog 51 := .of (by kernel_rfl)
instance : One Tryz.prog 52 := .of (by kernel_rfl)
instance : One Tryz.prog 53 := .of (by kernel_rfl)
instance : AggTy Tryz.prog 54 5 := .of (by kernel_rfl)
instance : StructTy Tryz.prog 54 [.int .i64 0, .int .i64 0, .int .i64 0, .int .i64 0, str []] [(0, 1), (1, 1), (2, 1), (3, 1), (4, 1)] := .of (by kernel_rfl)
instance : FlatTy Tryz.prog 54 [.i .i64, .i .i64, .i .i64, .i .i64, .s] := ⟨by kernel_rfl⟩
instance : Zero Tryz.prog 54 (.agg #[.int .i64 0, .int .i64 0, .int .i64 0, .int .i64 0, str []]) := .of (by kernel_rfl)
instance : FieldOff Tryz.prog 54 0 0 := .of (by kernel_rfl)
instance : FieldOne Tryz.prog 54 0 0 := .of (by kernel_rfl)
instance : FieldOff Tryz.prog 54 1 1 := .of (by kernel_rfl)
instance : FieldOne Tryz.prog 54 1 1 := .of (by kernel_rfl)
instance : FieldOff Tryz.prog 54 2 2 := .of (by kernel_rfl)
instance : FieldOne Tryz.prog 54 2 2 := .of (by kernel_rfl)
instance : FieldOff Tryz.prog 54 3 3 := .of (by kernel_rfl)
instance : FieldOne Tryz.prog 54 3 3 := .of (by kernel_rfl)
instance : FieldOff Tryz.prog 54 4 4 := .of (by kernel_rfl)
instance : FieldOne Tryz.prog 54 4 4 := .of (by kernel_rfl)
instance : AggTy Tryz.prog 55 5 := .of (by kernel_rfl)
instance : StructTy Tryz.prog 55 [.int .i64 0, .int .i64 0, .int .i64 0, .int .i64 0, str []] [(0, 1), (1, 1), (2, 1), (3, 1), (4, 1)] := .of (by kernel_rfl)
instance : FlatTy Tryz.prog 55 [.i .i64, .i .i64, .i .i64, .i .i64, .s] := ⟨by kernel_rfl⟩
instance : Zero Tryz.prog 55 (.agg #[.int .i64 0, .int .i64 0, .int .i64 0, .int .i64 0, str []]) := .of (by kernel_rfl)
instance : FieldOff Tryz.prog 55 0 0 := .of (by kernel_rfl)
instance : FieldOne Tryz.prog 55 0 0 := .of (by kernel_rfl)
instance : FieldOff Tryz.prog 55 1 1 := .of (by kernel_rfl)
instance : FieldOne Tryz.prog 55 1 1 := .of (by kernel_rfl)
instance : FieldOff Tryz.prog 55 2 2 := .of (by kernel_rfl)
instance : FieldOne Tryz.prog 55 2 2 := .of (by kernel_rfl)
instance : FieldOff Tryz.prog 55 3 3 := .of (by kernel_rfl)
instance : FieldOne Tryz.prog 55 3 3 := .of (by kernel_rfl)
instance : FieldOff Tryz.prog 55 4 4 := .of (by kernel_rfl)
instance : FieldOne Tryz.prog 55 4 4 := .of (by kernel_rfl)
instance : One Tryz.prog 56 := .of (by kernel_rfl)
instance : One Tryz.prog 57 := .of (by kernel_rfl)
instance : One Tryz.prog 58 := .of (by kernel_rfl)
instance : One Tryz.prog 59 := .of (by kernel_rfl)
instance : One Tryz.prog 60 := .of (by kernel_rfl)
instance : One Tryz.prog 61 := .of (by kernel_rfl)
instance : SliceTy Tryz.prog 61 80 10 112 := .of (by kernel_rfl)
instance : Zero Tryz.prog 61 (.slice none 0 0) := .of (by kernel_rfl)
instance : One Tryz.prog 62 := .of (by kernel_rfl)
instance : SliceTy Tryz.prog 62 55 5 48 := .of (by kernel_rfl)
instance : Zero Tryz.prog 62 (.slice none 0 0) := .of (by kernel_rfl)
instance : One Tryz.prog 63 := .of (by kernel_rfl)
instance : SliceTy Tryz.prog 63 113 4 32 := .of (by kernel_rfl)
instance : Zero Tryz.prog 63 (.slice none 0 0) := .of (by kernel_rfl)
instance : One Tryz.prog 64 := .of (by kernel_rfl)
instance : SliceTy Tryz.prog 64 107 4 56 := .of (by kernel_rfl)
instance : Zero Tryz.prog 64 (.slice none 0 0) := .of (by kernel_rfl)
instance : One Tryz.prog 65 := .of (by kernel_rfl)
instance : SliceTy Tryz.prog 65 129 7 72 := .of (by kernel_rfl)
instance : Zero Tryz.prog 65 (.slice none 0 0) := .of (by kernel_rfl)
instance : One Tryz.prog 66 := .of (by kernel_rfl)
instance : SliceTy Tryz.prog 66 131 2 16 := .of (by kernel_rfl)
instance : Zero Tryz.prog 66 (.slice none 0 0) := .of (by kernel_rfl)
instance : AggTy Tryz.prog 67 9 := .of (by kernel_rfl)
instance : StructTy Tryz.prog 67 [.int .i64 0, .int .i64 0, .int .i64 0, .slice none 0 0, .slice none 0 0, .slice none 0 0, .slice none 0 0, .slice none 0 0, .slice none 0 0] [(0, 1), (1, 1), (2, 1), (3, 1), (4, 1), (5, 1), (6, 1), (7, 1), (8, 1)] := .of (by kernel_rfl)
instance : Zero Tryz.prog 67 (.agg #[.int .i64 0, .int .i64 0, .int .i64 0, .slice none 0 0, .slice none 0 0, .slice none 0 0, .slice none 0 0, .slice none 0 0, .slice none 0 0]) := .of (by kernel_rfl)
instance : FieldOff Tryz.prog 67 0 0 := .of (by kernel_rfl)
instance : FieldOne Tryz.prog 67 0 0 := .of (by kernel_rfl)
instance : FieldOff Tryz.prog 67 1 1 := .of (by kernel_rfl)
instance : FieldOne Tryz.prog 67 1 1 := .of (by kernel_rfl)
instance : FieldOff Tryz.prog 67 2 2 := .of (by kernel_rfl)
instance : FieldOne Tryz.prog 67 2 2 := .of (by kernel_rfl)
instance : FieldOff Tryz.prog 67 3 3 := .of (by kernel_rfl)
instance : FieldOne Tryz.prog 67 3 3 := .of (by kernel_rfl)
instance : FieldOff Tryz.prog 67 4 4 := .of (by kernel_rfl)
instance : FieldOne Tryz.prog 67 4 4 := .of (by kernel_rfl)
instance : FieldOff Tryz.prog 67 5 5 := .of (by kernel_rfl)
instance : FieldOne Tryz.prog 67 5 5 := .of (by kernel_rfl)
instance : FieldOff Tryz.prog 67 6 6 := .of (by kernel_rfl)
instance : FieldOne Tryz.prog 67 6 6 := .of (by kernel_rfl)
instance : FieldOff Tryz.prog 67 7 7 := .of (by kernel_rfl)
instance : FieldOne Tryz.prog 67 7 7 := .of (by kernel_rfl)
instance : FieldOff Tryz.prog 67 8 8 := .of (by kernel_rfl)
instance : FieldOne Tryz.prog 67 8 8 := .of (by kernel_rfl)
instance : AggTy Tryz.prog 68 9 := .of (by kernel_rfl)
instance : StructTy Tryz.prog 68 [.int .i64 0, .int .i64 0, .int .i64 0, .slice none 0 0, .slice none 0 0, .slice none 0 0, .slice none 0 0, .slice none 0 0, .slice none 0 0] [(0, 1), (1, 1), (2, 1), (3, 1), (4, 1), (5, 1), (6, 1), (7, 1), (8, 1)] := .of (by kernel_rfl)
instance : Zero Tryz.prog 68 (.agg #[.int .i64 0, .int .i64 0, .int .i64 0, .slice none 0 0, .slice none 0 0, .slice none 0 0, .slice none 0 0, .slice none 0 0, .slice none 0 0]) := .of (by kernel_rfl)
instance : FieldOff Tryz.prog 68 0 0 := .of (by kernel_rfl)
instance : FieldOne Tryz.prog 68 0 0 := .of (by kernel_rfl)
instance : FieldOff Tryz.prog 68 1 1 := .of (by kernel_rfl)
instance : FieldOne Tryz.prog 68 1 1 := .of (by kernel_rfl)
instance : FieldOff Tryz.prog 68 2 2 := .of (by kernel_rfl)
instance : FieldOne Tryz.prog 68 2 2 := .of (by kernel_rfl)
instance : FieldOff Tryz.prog 68 3 3 := .of (by kernel_rfl)
instance : FieldOne Tryz.prog 68 3 3 := .of (by kernel_rfl)
instance : FieldOff Tryz.prog 68 4 4 := .of (by kernel_rfl)
instance : FieldOne Tryz.prog 68 4 4 := .of (by kernel_rfl)
instance : FieldOff Tryz.prog 68 5 5 := .of (by kernel_rfl)
instance : FieldOne Tryz.prog 68 5 5 := .of (by kernel_rfl)
instance : FieldOff Tryz.prog 68 6 6 := .of (by kernel_rfl)
instance : FieldOne Tryz.prog 68 6 6 := .of (by kernel_rfl)
instance : FieldOff Tryz.prog 68 7 7 := .of (by kernel_rfl)
instance : FieldOne Tryz.prog 68 7 7 := .of (by kernel_rfl)
instance : FieldOff Tryz.prog 68 8 8 := .of (by kernel_rfl)
instance : FieldOne Tryz.prog 68 8 8 := .of (by kernel_rfl)
instance : One Tryz.prog 69 := .of (by kernel_rfl)
instance : One Tryz.prog 70 := .of (by kernel_rfl)
instance : One Tryz.prog 71 := .of (by kernel_rfl)
instance : One Tryz.prog 72 := .of (by kernel_rfl)
instance : One Tryz.prog 73 := .of (by kernel_rfl)
instance : AggTy Tryz.prog 74 4 := .of (by kernel_rfl)
instance : StructTy Tryz.prog 74 [.int .i64 0, str [], str [], .slice none 0 0] [(0, 1), (1, 1), (2, 1), (3, 1)] := .of (by kernel_rfl)
instance : Zero Tryz.prog 74 (.agg #[.int .i64 0, str [], str [], .slice none 0 0]) := .of (by kernel_rfl)
instance : FieldOff Tryz.prog 74 0 0 := .of (by kernel_rfl)
instance : FieldOne Tryz.prog 74 0 0 := .of (by kernel_rfl)
instance : FieldOff Tryz.prog 74 1 1 := .of (by kernel_rfl)
instance : FieldOne Tryz.prog 74 1 1 := .of (by kernel_rfl)
instance : FieldOff Tryz.prog 74 2 2 := .of (by kernel_rfl)
instance : FieldOne Tryz.prog 74 2 2 := .of (by kernel_rfl)
instance : FieldOff Tryz.prog 74 3 3 := .of (by kernel_rfl)
instance : FieldOne Tryz.prog 74 3 3 := .of (by kernel_rfl)
instance : AggTy Tryz.prog 75 4 := .of (by kernel_rfl)
instance : StructTy Tryz.prog 75 [.int .i64 0, str [], str [], .slice none 0 0] [(0, 1), (1, 1), (2, 1), (3, 1)] := .of (by kernel_rfl)
instance : Zero Tryz.prog 75 (.agg #[.int .i64 0, str [], str [], .slice none 0 0]) := .of (by kernel_rfl)
instance : FieldOff Tryz.prog 75 0 0 := .of (by kernel_rfl)
instance : FieldOne Tryz.prog 75 0 0 := .of (by kernel_rfl)
instance : FieldOff Tryz.prog 75 1 1 := .of (by kernel_rfl)
instance : FieldOne Tryz.prog 75 1 1 := .of (by kernel_rfl)
instance : FieldOff Tryz.prog 75 2 2 := .of (by kernel_rfl)
instance : FieldOne Tryz.prog 75 2 2 := .of (by kernel_rfl)
instance : FieldOff Tryz.prog 75 3 3 := .of (by kernel_rfl)
instance : FieldOne Tryz.prog 75 3 3 := .of (by kernel_rfl)
instance : One Tryz.prog 76 := .of (by kernel_rfl)
instance : AggTy Tryz.prog 77 2 := .of (by kernel_rfl)
instance : StructTy Tryz.prog 77 [str [], str []] [(0, 1), (1, 1)] := .of (by kernel_rfl)
instance : FlatTy Tryz.prog 77 [.s, .s] := ⟨by kernel_rfl⟩
instance : Zero Tryz.prog 77 (.agg #[str [], str []]) := .of (by kernel_rfl)
instance : FieldOff Tryz.prog 77 0 0 := .of (by kernel_rfl)
instance : FieldOne Tryz.prog 77 0 0 := .of (by kernel_rfl)
instance : FieldOff Tryz.prog 77 1 1 := .of (by kernel_rfl)
instance : FieldOne Tryz.prog 77 1 1 := .of (by kernel_rfl)
instance : AggTy Tryz.prog 78 2 := .of (by kernel_rfl)
instance : StructTy Tryz.prog 78 [str [], str []] [(0, 1), (1, 1)] := .of (by kernel_rfl)
instance : FlatTy Tryz.prog 78 [.s, .s] := ⟨by kernel_rfl⟩
instance : Zero Tryz.prog 78 (.agg #[str [], str []]) := .of (by kernel_rfl)
instance : FieldOff Tryz.prog 78 0 0 := .of (by kernel_rfl)
instance : FieldOne Tryz.prog 78 0 0 := .of (by kernel_rfl)
instance : FieldOff Tryz.prog 78 1 1 := .of (by kernel_rfl)
instance : FieldOne Tryz.prog 78 1 1 := .of (by kernel_rfl)
instance : AggTy Tryz.prog 79 10 := .of (by kernel_rfl)
instance : StructTy Tryz.prog 79 [str [], str [], .bool false, .int .i64 0, .int .i64 0, .int .i64 0, .int .i64 0, .int .i64 0, .int .i64 0, .slice none 0 0] [(0, 1), (1, 1), (2, 1), (3, 1), (4, 1), (5, 1), (6, 1), (7, 1), (8, 1), (9, 1)] := .of (by kernel_rfl)
instance : Zero Tryz.prog 79 (.agg #[str [], str [], .bool false, .int .i64 0, .int .i64 0, .int .i64 0, .int .i64 0, .int .i64 0, .int .i64 0, .slice none 0 0]) := .of (by kernel_rfl)
instance : FieldOff Tryz.prog 79 0 0 := .of (by kernel_rfl)
instance : FieldOne Tryz.prog 79 0 0 := .of (by kernel_rfl)
instance : FieldOff Tryz.prog 79 1 1 := .of (by kernel_rfl)
instance : FieldOne Tryz.prog 79 1 1 := .of (by kernel_rfl)
instance : FieldOff Tryz.prog 79 2 2 := .of (by kernel_rfl)
instance : FieldOne Tryz.prog 79 2 2 := .of (by kernel_rfl)
instance : FieldOff Tryz.prog 79 3 3 := .of (by kernel_rfl)
instance : FieldOne Tryz.prog 79 3 3 := .of (by kernel_rfl)
instance : FieldOff Tryz.prog 79 4 4 := .of (by kernel_rfl)
instance : FieldOne Tryz.prog 79 4 4 := .of (by kernel_rfl)
instance : FieldOff Tryz.prog 79 5 5 := .of (by kernel_rfl)
instance : FieldOne Tryz.prog 79 5 5 := .of (by kernel_rfl)
instance : FieldOff Tryz.prog 79 6 6 := .of (by kernel_rfl)
instance : FieldOne Tryz.prog 79 6 6 := .of (by kernel_rfl)
instance : FieldOff Tryz.prog 79 7 7 := .of (by kernel_rfl)
instance : FieldOne Tryz.prog 79 7 7 := .of (by kernel_rfl)
instance : FieldOff Tryz.prog 79 8 8 := .of (by kernel_rfl)
instance : FieldOne Tryz.prog 79 8 8 := .of (by kernel_rfl)
instance : FieldOff Tryz.prog 79 9 9 := .of (by kernel_rfl)
instance : FieldOne Tryz.prog 79 9 9 := .of (by kernel_rfl)
instance : AggTy Tryz.prog 80 10 := .of (by kernel_rfl)
instance : StructTy Tryz.prog 80 [str [], str [], .bool false, .int .i64 0, .int .i64 0, .int .i64 0, .int .i64 0, .int .i64 0, .int .i64 0, .slice none 0 0] [(0, 1), (1, 1), (2, 1), (3, 1), (4, 1), (5, 1), (6, 1), (7, 1), (8, 1), (9, 1)] := .of (by kernel_rfl)
instance : Zero Tryz.prog 80 (.agg #[str [], str [], .bool false, .int .i64 0, .int .i64 0, .int .i64 0, .int .i64 0, .int .i64 0, .int .i64 0, .slice none 0 0]) := .of (by kernel_rfl)
instance : FieldOff Tryz.prog 80 0 0 := .of (by kernel_rfl)
instance : FieldOne Tryz.prog 80 0 0 := .of (by kernel_rfl)
instance : FieldOff Tryz.prog 80 1 1 := .of (by kernel_rfl)
instance : FieldOne Tryz.prog 80 1 1 := .of (by kernel_rfl)
instance : FieldOff Tryz.prog 80 2 2 := .of (by kernel_rfl)
instance : FieldOne Tryz.prog 80 2 2 := .of (by kernel_rfl)
instance : FieldOff Tryz.prog 80 3 3 := .of (by kernel_rfl)
instance : FieldOne Tryz.prog 80 3 3 := .of (by kernel_rfl)
instance : FieldOff Tryz.prog 80 4 4 := .of (by kernel_rfl)
instance : FieldOne Tryz.prog 80 4 4 := .of (by kernel_rfl)
instance : FieldOff Tryz.prog 80 5 5 := .of (by kernel_rfl)
instance : FieldOne Tryz.prog 80 5 5 := .of (by kernel_rfl)
instance : FieldOff Tryz.prog 80 6 6 := .of (by kernel_rfl)
instance : FieldOne Tryz.prog 80 6 6 := .of (by kernel_rfl)
instance : FieldOff Tryz.prog 80 7 7 := .of (by kernel_rfl)
instance : FieldOne Tryz.prog 80 7 7 := .of (by kernel_rfl)
instance : FieldOff Tryz.prog 80 8 8 := .of (by kernel_rfl)
instance : FieldOne Tryz.prog 80 8 8 := .of (by kernel_rfl)
instance : FieldOff Tryz.prog 80 9 9 := .of (by kernel_rfl)
instance : FieldOne Tryz.prog 80 9 9 := .of (by kernel_rfl)
instance : One Tryz.prog 81 := .of (by kernel_rfl)
instance : One Tryz.prog 82 := .of (by kernel_rfl)
instance : One Tryz.prog 83 := .of (by kernel_rfl)
instance : AggTy Tryz.prog 84 6 := .of (by kernel_rfl)
instance : ArrTy Tryz.prog 84 6 3 1 := .of (by kernel_rfl)
instance : Zero Tryz.prog 84 (.agg #[.int .i64 0, .int .i64 0, .int .i64 0, .int .i64 0, .int .i64 0, .int .i64 0]) := .of (by kernel_rfl)
instance : AggTy Tryz.prog 85 10 := .of (by kernel_rfl)
instance : StructTy Tryz.prog 85 [.int .i64 0, str [], .int .i64 0, .int .i64 0, .int .i64 0, .int .i64 0, .int .i64 0, .int .i64 0, .int .i64 0, .int .i64 0] [(0, 1), (1, 1), (2, 1), (3, 1), (4, 6)] := .of (by kernel_rfl)
instance : Zero Tryz.prog 85 (.agg #[.int .i64 0, str [], .int .i64 0, .int .i64 0, .int .i64 0, .int .i64 0, .int .i64 0, .int .i64 0, .int .i64 0, .int .i64 0]) := .of (by kernel_rfl)
instance : FieldOff Tryz.prog 85 0 0 := .of (by kernel_rfl)
instance : FieldOne Tryz.prog 85 0 0 := .of (by kernel_rfl)
instance : FieldOff Tryz.prog 85 1 1 := .of (by kernel_rfl)
instance : FieldOne Tryz.prog 85 1 1 := .of (by kernel_rfl)
instance : FieldOff Tryz.prog 85 2 2 := .of (by kernel_rfl)
instance : FieldOne Tryz.prog 85 2 2 := .of (by kernel_rfl)
instance : FieldOff Tryz.prog 85 3 3 := .of (by kernel_rfl)
instance : FieldOne Tryz.prog 85 3 3 := .of (by kernel_rfl)
instance : FieldOff Tryz.prog 85 4 4 := .of (by kernel_rfl)
instance : AggTy Tryz.prog 86 10 := .of (by kernel_rfl)
instance : StructTy Tryz.prog 86 [.int .i64 0, str [], .int .i64 0, .int .i64 0, .int .i64 0, .int .i64 0, .int .i64 0, .int .i64 0, .int .i64 0, .int .i64 0] [(0, 1), (1, 1), (2, 1), (3, 1), (4, 6)] := .of (by kernel_rfl)
instance : Zero Tryz.prog 86 (.agg #[.int .i64 0, str [], .int .i64 0, .int .i64 0, .int .i64 0, .int .i64 0, .int .i64 0, .int .i64 0, .int .i64 0, .int .i64 0]) := .of (by kernel_rfl)
instance : FieldOff Tryz.prog 86 0 0 := .of (by kernel_rfl)
instance : FieldOne Tryz.prog 86 0 0 := .of (by kernel_rfl)
instance : FieldOff Tryz.prog 86 1 1 := .of (by kernel_rfl)
instance : FieldOne Tryz.prog 86 1 1 := .of (by kernel_rfl)
instance : FieldOff Tryz.prog 86 2 2 := .of (by kernel_rfl)
instance : FieldOne Tryz.prog 86 2 2 := .of (by kernel_rfl)
instance : FieldOff Tryz.prog 86 3 3 := .of (by kernel_rfl)
instance : FieldOne Tryz.prog 86 3 3 := .of (by kernel_rfl)
instance : FieldOff Tryz.prog 86 4 4 := .of (by kernel_rfl)
instance : One Tryz.prog 87 := .of (by kernel_rfl)
instance : SliceTy Tryz.prog 87 86 10 88 := .of (by kernel_rfl)
instance : Zero Tryz.prog 87 (.slice none 0 0) := .of (by kernel_rfl)
instance : AggTy Tryz.prog 88 5 := .of (by kernel_rfl)
instance : StructTy Tryz.prog 88 [.int .i64 0, str [], .int .i64 0, .int .i64 0, .int .i64 0] [(0, 1), (1, 1), (2, 1), (3, 1), (4, 1)] := .of (by kernel_rfl)
instance : FlatTy Tryz.prog 88 [.i .i64, .s, .i .i64, .i .i64, .i .i64] := ⟨by kernel_rfl⟩
instance : Zero Tryz.prog 88 (.agg #[.int .i64 0, str [], .int .i64 0, .int .i64 0, .int .i64 0]) := .of (by kernel_rfl)
instance : FieldOff Tryz.prog 88 0 0 := .of (by kernel_rfl)
instance : FieldOne Tryz.prog 88 0 0 := .of (by kernel_rfl)
instance : FieldOff Tryz.prog 88 1 1 := .of (by kernel_rfl)
instance : FieldOne Tryz.prog 88 1 1 := .of (by kernel_rfl)
instance : FieldOff Tryz.prog 88 2 2 := .of (by kernel_rfl)
instance : FieldOne Tryz.prog 88 2 2 := .of (by kernel_rfl)
instance : FieldOff Tryz.prog 88 3 3 := .of (by kernel_rfl)
instance : FieldOne Tryz.prog 88 3 3 := .of (by kernel_rfl)
instance : FieldOff Tryz.prog 88 4 4 := .of (by kernel_rfl)
instance : FieldOne Tryz.prog 88 4 4 := .of (by kernel_rfl)
instance : AggTy Tryz.prog 89 5 := .of (by kernel_rfl)
instance : StructTy Tryz.prog 89 [.int .i64 0, str [], .int .i64 0, .int .i64 0, .int .i64 0] [(0, 1), (1, 1), (2, 1), (3, 1), (4, 1)] := .of (by kernel_rfl)
instance : FlatTy Tryz.prog 89 [.i .i64, .s, .i .i64, .i .i64, .i .i64] := ⟨by kernel_rfl⟩
instance : Zero Tryz.prog 89 (.agg #[.int .i64 0, str [], .int .i64 0, .int .i64 0, .int .i64 0]) := .of (by kernel_rfl)
instance : FieldOff Tryz.prog 89 0 0 := .of (by kernel_rfl)
instance : FieldOne Tryz.prog 89 0 0 := .of (by kernel_rfl)
instance : FieldOff Tryz.prog 89 1 1 := .of (by kernel_rfl)
instance : FieldOne Tryz.prog 89 1 1 := .of (by kernel_rfl)
instance : FieldOff Tryz.prog 89 2 2 := .of (by kernel_rfl)
instance : FieldOne Tryz.prog 89 2 2 := .of (by kernel_rfl)
instance : FieldOff Tryz.prog 89 3 3 := .of (by kernel_rfl)
instance : FieldOne Tryz.prog 89 3 3 := .of (by kernel_rfl)
instance : FieldOff Tryz.prog 89 4 4 := .of (by kernel_rfl)
instance : FieldOne Tryz.prog 89 4 4 := .of (by kernel_rfl)
instance : One Tryz.prog 90 := .of (by kernel_rfl)
instance : SliceTy Tryz.prog 90 89 5 48 := .of (by kernel_rfl)
instance : Zero Tryz.prog 90 (.slice none 0 0) := .of (by kernel_rfl)
instance : AggTy Tryz.prog 91 7 := .of (by kernel_rfl)
instance : StructTy Tryz.prog 91 [.int .i64 0, str [], .int .i64 0, .int .i64 0, .int .i64 0, .int .i64 0, .int .i64 0] [(0, 1), (1, 1), (2, 1), (3, 1), (4, 1), (5, 1), (6, 1)] := .of (by kernel_rfl)
instance : FlatTy Tryz.prog 91 [.i .i64, .s, .i .i64, .i .i64, .i .i64, .i .i64, .i .i64] := ⟨by kernel_rfl⟩
instance : Zero Tryz.prog 91 (.agg #[.int .i64 0, str [], .int .i64 0, .int .i64 0, .int .i64 0, .int .i64 0, .int .i64 0]) := .of (by kernel_rfl)
instance : FieldOff Tryz.prog 91 0 0 := .of (by kernel_rfl)
instance : FieldOne Tryz.prog 91 0 0 := .of (by kernel_rfl)
instance : FieldOff Tryz.prog 91 1 1 := .of (by kernel_rfl)
instance : FieldOne Tryz.prog 91 1 1 := .of (by kernel_rfl)
instance : FieldOff Tryz.prog 91 2 2 := .of (by kernel_rfl)
instance : FieldOne Tryz.prog 91 2 2 := .of (by kernel_rfl)
instance : FieldOff Tryz.prog 91 3 3 := .of (by kernel_rfl)
instance : FieldOne Tryz.prog 91 3 3 := .of (by kernel_rfl)
instance : FieldOff Tryz.prog 91 4 4 := .of (by kernel_rfl)
instance : FieldOne Tryz.prog 91 4 4 := .of (by kernel_rfl)
instance : FieldOff Tryz.prog 91 5 5 := .of (by kernel_rfl)
instance : FieldOne Tryz.prog 91 5 5 := .of (by kernel_rfl)
instance : FieldOff Tryz.prog 91 6 6 := .of (by kernel_rfl)
instance : FieldOne Tryz.prog 91 6 6 := .of (by kernel_rfl)
instance : AggTy Tryz.prog 92 7 := .of (by kernel_rfl)
instance : StructTy Tryz.prog 92 [.int .i64 0, str [], .int .i64 0, .int .i64 0, .int .i64 0, .int .i64 0, .int .i64 0] [(0, 1), (1, 1), (2, 1), (3, 1), (4, 1), (5, 1), (6, 1)] := .of (by kernel_rfl)
instance : FlatTy Tryz.prog 92 [.i .i64, .s, .i .i64, .i .i64, .i .i64, .i .i64, .i .i64] := ⟨by kernel_rfl⟩
instance : Zero Tryz.prog 92 (.agg #[.int .i64 0, str [], .int .i64 0, .int .i64 0, .int .i64 0, .int .i64 0, .int .i64 0]) := .of (by kernel_rfl)
instance : FieldOff Tryz.prog 92 0 0 := .of (by kernel_rfl)
instance : FieldOne Tryz.prog 92 0 0 := .of (by kernel_rfl)
instance : FieldOff Tryz.prog 92 1 1 := .of (by kernel_rfl)
instance : FieldOne Tryz.prog 92 1 1 := .of (by kernel_rfl)
instance : FieldOff Tryz.prog 92 2 2 := .of (by kernel_rfl)
instance : FieldOne Tryz.prog 92 2 2 := .of (by kernel_rfl)
instance : FieldOff Tryz.prog 92 3 3 := .of (by kernel_rfl)
instance : FieldOne Tryz.prog 92 3 3 := .of (by kernel_rfl)
instance : FieldOff Tryz.prog 92 4 4 := .of (by kernel_rfl)
instance : FieldOne Tryz.prog 92 4 4 := .of (by kernel_rfl)
instance : FieldOff Tryz.prog 92 5 5 := .of (by kernel_rfl)
instance : FieldOne Tryz.prog 92 5 5 := .of (by kernel_rfl)
instance : FieldOff Tryz.prog 92 6 6 := .of (by kernel_rfl)
instance : FieldOne Tryz.prog 92 6 6 := .of (by kernel_rfl)
instance : One Tryz.prog 93 := .of (by kernel_rfl)
instance : SliceTy Tryz.prog 93 92 7 64 := .of (by kernel_rfl)
instance : Zero Tryz.prog 93 (.slice none 0 0) := .of (by kernel_rfl)
instance : AggTy Tryz.prog 94 2 := .of (by kernel_rfl)
instance : StructTy Tryz.prog 94 [.int .i64 0, .slice none 0 0] [(0, 1), (1, 1)] := .of (by kernel_rfl)
instance : Zero Tryz.prog 94 (.agg #[.int .i64 0, .slice none 0 0]) := .of (by kernel_rfl)
instance : FieldOff Tryz.prog 94 0 0 := .of (by kernel_rfl)
instance : FieldOne Tryz.prog 94 0 0 := .of (by kernel_rfl)
instance : FieldOff Tryz.prog 94 1 1 := .of (by kernel_rfl)
instance : FieldOne Tryz.prog 94 1 1 := .of (by kernel_rfl)
instance : AggTy Tryz.prog 95 2 := .of (by kernel_rfl)
instance : StructTy Tryz.prog 95 [.int .i64 0, .slice none 0 0] [(0, 1), (1, 1)] := .of (by kernel_rfl)
instance : Zero Tryz.prog 95 (.agg #[.int .i64 0, .slice none 0 0]) := .of (by kernel_rfl)
instance : FieldOff Tryz.prog 95 0 0 := .of (by kernel_rfl)
instance : FieldOne Tryz.prog 95 0 0 := .of (by kernel_rfl)
instance : FieldOff Tryz.prog 95 1 1 := .of (by kernel_rfl)
instance : FieldOne Tryz.prog 95 1 1 := .of (by kernel_rfl)
instance : One Tryz.prog 96 := .of (by kernel_rfl)
instance : SliceTy Tryz.prog 96 95 2 32 := .of (by kernel_rfl)
instance : Zero Tryz.prog 96 (.slice none 0 0) := .of (by kernel_rfl)
instance : AggTy Tryz.prog 97 5 := .of (by kernel_rfl)
instance : StructTy Tryz.prog 97 [.int .i64 0, .int .i64 0, .int .i64 0, .int .i64 0, .int .i64 0] [(0, 1), (1, 1), (2, 1), (3, 1), (4, 1)] := .of (by kernel_rfl)
instance : FlatTy Tryz.prog 97 [.i .i64, .i .i64, .i .i64, .i .i64, .i .i64] := ⟨by kernel_rfl⟩
instance : Zero Tryz.prog 97 (.agg #[.int .i64 0, .int .i64 0, .int .i64 0, .int .i64 0, .int .i64 0]) := .of (by kernel_rfl)
instance : FieldOff Tryz.prog 97 0 0 := .of (by kernel_rfl)
instance : FieldOne Tryz.prog 97 0 0 := .of (by kernel_rfl)
instance : FieldOff Tryz.prog 97 1 1 := .of (by kernel_rfl)
instance : FieldOne Tryz.prog 97 1 1 := .of (by kernel_rfl)
instance : FieldOff Tryz.prog 97 2 2 := .of (by kernel_rfl)
instance : FieldOne Tryz.prog 97 2 2 := .of (by kernel_rfl)
instance : FieldOff Tryz.prog 97 3 3 := .of (by kernel_rfl)
instance : FieldOne Tryz.prog 97 3 3 := .of (by kernel_rfl)
instance : FieldOff Tryz.prog 97 4 4 := .of (by kernel_rfl)
instance : FieldOne Tryz.prog 97 4 4 := .of (by kernel_rfl)
instance : AggTy Tryz.prog 98 5 := .of (by kernel_rfl)
instance : StructTy Tryz.prog 98 [.int .i64 0, .int .i64 0, .int .i64 0, .int .i64 0, .int .i64 0] [(0, 1), (1, 1), (2, 1), (3, 1), (4, 1)] := .of (by kernel_rfl)
instance : FlatTy Tryz.prog 98 [.i .i64, .i .i64, .i .i64, .i .i64, .i .i64] := ⟨by kernel_rfl⟩
instance : Zero Tryz.prog 98 (.agg #[.int .i64 0, .int .i64 0, .int .i64 0, .int .i64 0, .int .i64 0]) := .of (by kernel_rfl)
instance : FieldOff Tryz.prog 98 0 0 := .of (by kernel_rfl)
instance : FieldOne Tryz.prog 98 0 0 := .of (by kernel_rfl)
instance : FieldOff Tryz.prog 98 1 1 := .of (by kernel_rfl)
instance : FieldOne Tryz.prog 98 1 1 := .of (by kernel_rfl)
instance : FieldOff Tryz.prog 98 2 2 := .of (by kernel_rfl)
instance : FieldOne Tryz.prog 98 2 2 := .of (by kernel_rfl)
instance : FieldOff Tryz.prog 98 3 3 := .of (by kernel_rfl)
instance : FieldOne Tryz.prog 98 3 3 := .of (by kernel_rfl)
instance : FieldOff Tryz.prog 98 4 4 := .of (by kernel_rfl)
instance : FieldOne Tryz.prog 98 4 4 := .of (by kernel_rfl)
instance : One Tryz.prog 99 := .of (by kernel_rfl)
instance : SliceTy Tryz.prog 99 98 5 40 := .of (by kernel_rfl)
instance : Zero Tryz.prog 99 (.slice none 0 0) := .of (by kernel_rfl)
instance : AggTy Tryz.prog 100 3 := .of (by kernel_rfl)
instance : StructTy Tryz.prog 100 [.int .i64 0, .int .i64 0, .slice none 0 0] [(0, 1), (1, 1), (2, 1)] := .of (by kernel_rfl)
instance : Zero Tryz.prog 100 (.agg #[.int .i64 0, .int .i64 0, .slice none 0 0]) := .of (by kernel_rfl)
instance : FieldOff Tryz.prog 100 0 0 := .of (by kernel_rfl)
instance : FieldOne Tryz.prog 100 0 0 := .of (by kernel_rfl)
instance : FieldOff Tryz.prog 100 1 1 := .of (by kernel_rfl)
instance : FieldOne Tryz.prog 100 1 1 := .of (by kernel_rfl)
instance : FieldOff Tryz.prog 100 2 2 := .of (by kernel_rfl)
instance : FieldOne Tryz.prog 100 2 2 := .of (by kernel_rfl)
instance : AggTy Tryz.prog 101 3 := .of (by kernel_rfl)
instance : StructTy Tryz.prog 101 [.int .i64 0, .int .i64 0, .slice none 0 0] [(0, 1), (1, 1), (2, 1)] := .of (by kernel_rfl)
instance : Zero Tryz.prog 101 (.agg #[.int .i64 0, .int .i64 0, .slice none 0 0]) := .of (by kernel_rfl)
instance : FieldOff Tryz.prog 101 0 0 := .of (by kernel_rfl)
instance : FieldOne Tryz.prog 101 0 0 := .of (by kernel_rfl)
instance : FieldOff Tryz.prog 101 1 1 := .of (by kernel_rfl)
instance : FieldOne Tryz.prog 101 1 1 := .of (by kernel_rfl)
instance : FieldOff Tryz.prog 101 2 2 := .of (by kernel_rfl)
instance : FieldOne Tryz.prog 101 2 2 := .of (by kernel_rfl)
instance : One Tryz.prog 102 := .of (by kernel_rfl)
instance : SliceTy Tryz.prog 102 101 3 40 := .of (by kernel_rfl)
instance : Zero Tryz.prog 102 (.slice none 0 0) := .of (by kernel_rfl)
instance : AggTy Tryz.prog 103 6 := .of (by kernel_rfl)
instance : StructTy Tryz.prog 103 [.slice none 0 0, .slice none 0 0, .slice none 0 0, .slice none 0 0, .slice none 0 0, .slice none 0 0] [(0, 1), (1, 1), (2, 1), (3, 1), (4, 1), (5, 1)] := .of (by kernel_rfl)
instance : Zero Tryz.prog 103 (.agg #[.slice none 0 0, .slice none 0 0, .slice none 0 0, .slice none 0 0, .slice none 0 0, .slice none 0 0]) := .of (by kernel_rfl)
instance : FieldOff Tryz.prog 103 0 0 := .of (by kernel_rfl)
instance : FieldOne Tryz.prog 103 0 0 := .of (by kernel_rfl)
instance : FieldOff Tryz.prog 103 1 1 := .of (by kernel_rfl)
instance : FieldOne Tryz.prog 103 1 1 := .of (by kernel_rfl)
instance : FieldOff Tryz.prog 103 2 2 := .of (by kernel_rfl)
instance : FieldOne Tryz.prog 103 2 2 := .of (by kernel_rfl)
instance : FieldOff Tryz.prog 103 3 3 := .of (by kernel_rfl)
instance : FieldOne Tryz.prog 103 3 3 := .of (by kernel_rfl)
instance : FieldOff Tryz.prog 103 4 4 := .of (by kernel_rfl)
instance : FieldOne Tryz.prog 103 4 4 := .of (by kernel_rfl)
instance : FieldOff Tryz.prog 103 5 5 := .of (by kernel_rfl)
instance : FieldOne Tryz.prog 103 5 5 := .of (by kernel_rfl)
instance : AggTy Tryz.prog 104 6 := .of (by kernel_rfl)
instance : StructTy Tryz.prog 104 [.slice none 0 0, .slice none 0 0, .slice none 0 0, .slice none 0 0, .slice none 0 0, .slice none 0 0] [(0, 1), (1, 1), (2, 1), (3, 1), (4, 1), (5, 1)] := .of (by kernel_rfl)
instance : Zero Tryz.prog 104 (.agg #[.slice none 0 0, .slice none 0 0, .slice none 0 0, .slice none 0 0, .slice none 0 0, .slice none 0 0]) := .of (by kernel_rfl)
instance : FieldOff Tryz.prog 104 0 0 := .of (by kernel_rfl)
instance : FieldOne Tryz.prog 104 0 0 := .of (by kernel_rfl)
instance : FieldOff Tryz.prog 104 1 1 := .of (by kernel_rfl)
instance : FieldOne Tryz.prog 104 1 1 := .of (by kernel_rfl)
instance : FieldOff Tryz.prog 104 2 2 := .of (by kernel_rfl)
instance : FieldOne Tryz.prog 104 2 2 := .of (by kernel_rfl)
instance : FieldOff Tryz.prog 104 3 3 := .of (by kernel_rfl)
instance : FieldOne Tryz.prog 104 3 3 := .of (by kernel_rfl)
instance : FieldOff Tryz.prog 104 4 4 := .of (by kernel_rfl)
instance : FieldOne Tryz.prog 104 4 4 := .of (by kernel_rfl)
instance : FieldOff Tryz.prog 104 5 5 := .of (by kernel_rfl)
instance : FieldOne Tryz.prog 104 5 5 := .of (by kernel_rfl)
instance : One Tryz.prog 105 := .of (by kernel_rfl)
instance : SliceTy Tryz.prog 105 9 1 16 := .of (by kernel_rfl)
instance : Zero Tryz.prog 105 (.slice none 0 0) := .of (by kernel_rfl)
instance : AggTy Tryz.prog 106 4 := .of (by kernel_rfl)
instance : StructTy Tryz.prog 106 [.int .i64 0, str [], .slice none 0 0, .int .i64 0] [(0, 1), (1, 1), (2, 1), (3, 1)] := .of (by kernel_rfl)
instance : Zero Tryz.prog 106 (.agg #[.int .i64 0, str [], .slice none 0 0, .int .i64 0]) := .of (by kernel_rfl)
instance : FieldOff Tryz.prog 106 0 0 := .of (by kernel_rfl)
instance : FieldOne Tryz.prog 106 0 0 := .of (by kernel_rfl)
instance : FieldOff Tryz.prog 106 1 1 := .of (by kernel_rfl)
instance : FieldOne Tryz.prog 106 1 1 := .of (by kernel_rfl)
instance : FieldOff Tryz.prog 106 2 2 := .of (by kernel_rfl)
instance : FieldOne Tryz.prog 106 2 2 := .of (by kernel_rfl)
instance : FieldOff Tryz.prog 106 3 3 := .of (by kernel_rfl)
instance : FieldOne Tryz.prog 106 3 3 := .of (by kernel_rfl)
instance : AggTy Tryz.prog 107 4 := .of (by kernel_rfl)
instance : StructTy Tryz.prog 107 [.int .i64 0, str [], .slice none 0 0, .int .i64 0] [(0, 1), (1, 1), (2, 1), (3, 1)] := .of (by kernel_rfl)
instance : Zero Tryz.prog 107 (.agg #[.int .i64 0, str [], .slice none 0 0, .int .i64 0]) := .of (by kernel_rfl)
instance : FieldOff Tryz.prog 107 0 0 := .of (by kernel_rfl)
instance : FieldOne Tryz.prog 107 0 0 := .of (by kernel_rfl)
instance : FieldOff Tryz.prog 107 1 1 := .of (by kernel_rfl)
instance : FieldOne Tryz.prog 107 1 1 := .of (by kernel_rfl)
instance : FieldOff Tryz.prog 107 2 2 := .of (by kernel_rfl)
instance : FieldOne Tryz.prog 107 2 2 := .of (by kernel_rfl)
instance : FieldOff Tryz.prog 107 3 3 := .of (by kernel_rfl)
instance : FieldOne Tryz.prog 107 3 3 := .of (by kernel_rfl)
instance : One Tryz.prog 108 := .of (by kernel_rfl)
instance : One Tryz.prog 109 := .of (by kernel_rfl)
instance : One Tryz.prog 110 := .of (by kernel_rfl)
instance : One Tryz.prog 111 := .of (by kernel_rfl)
instance : AggTy Tryz.prog 112 4 := .of (by kernel_rfl)
instance : StructTy Tryz.prog 112 [.int .i64 0, .int .i64 0, .int .i64 0, .int .i64 0] [(0, 1), (1, 1), (2, 1), (3, 1)] := .of (by kernel_rfl)
instance : FlatTy Tryz.prog 112 [.i .i64, .i .i64, .i .i64, .i .i64] := ⟨by kernel_rfl⟩
instance : Zero Tryz.prog 112 (.agg #[.int .i64 0, .int .i64 0, .int .i64 0, .int .i64 0]) := .of (by kernel_rfl)
instance : FieldOff Tryz.prog 112 0 0 := .of (by kernel_rfl)
instance : FieldOne Tryz.prog 112 0 0 := .of (by kernel_rfl)
instance : FieldOff Tryz.prog 112 1 1 := .of (by kernel_rfl)
instance : FieldOne Tryz.prog 112 1 1 := .of (by kernel_rfl)
instance : FieldOff Tryz.prog 112 2 2 := .of (by kernel_rfl)
instance : FieldOne Tryz.prog 112 2 2 := .of (by kernel_rfl)
instance : FieldOff Tryz.prog 112 3 3 := .of (by kernel_rfl)
instance : FieldOne Tryz.prog 112 3 3 := .of (by kernel_rfl)
instance : AggTy Tryz.prog 113 4 := .of (by kernel_rfl)
instance : StructTy Tryz.prog 113 [.int .i64 0, .int .i64 0, .int .i64 0, .int .i64 0] [(0, 1), (1, 1), (2, 1), (3, 1)] := .of (by kernel_rfl)
instance : FlatTy Tryz.prog 113 [.i .i64, .i .i64, .i .i64, .i .i64] := ⟨by kernel_rfl⟩
instance : Zero Tryz.prog 113 (.agg #[.int .i64 0, .int .i64 0, .int .i64 0, .int .i64 0]) := .of (by kernel_rfl)
instance : FieldOff Tryz.prog 113 0 0 := .of (by kernel_rfl)
instance : FieldOne Tryz.prog 113 0 0 := .of (by kernel_rfl)
instance : FieldOff Tryz.prog 113 1 1 := .of (by kernel_rfl)
instance : FieldOne Tryz.prog 113 1 1 := .of (by kernel_rfl)
instance : FieldOff Tryz.prog 113 2 2 := .of (by kernel_rfl)
instance : FieldOne Tryz.prog 113 2 2 := .of (by kernel_rfl)
instance : FieldOff Tryz.prog 113 3 3 := .of (by kernel_rfl)
instance : FieldOne Tryz.prog 113 3 3 := .of (by kernel_rfl)
instance : One Tryz.prog 114 := .of (by kernel_rfl)
instance : One Tryz.prog 115 := .of (by kernel_rfl)
instance : One Tryz.prog 116 := .of (by kernel_rfl)
instance : One Tryz.prog 117 := .of (by kernel_rfl)
instance : One Tryz.prog 118 := .of (by kernel_rfl)
instance : One Tryz.prog 119 := .of (by kernel_rfl)
instance : One Tryz.prog 120 := .of (by kernel_rfl)
instance : Zero Tryz.prog 120 (.pointer none) := .of (by kernel_rfl)
instance : PtrTy Tryz.prog 120 := ⟨by kernel_rfl⟩
instance : One Tryz.prog 121 := .of (by kernel_rfl)
instance : One Tryz.prog 122 := .of (by kernel_rfl)
instance : One Tryz.prog 123 := .of (by kernel_rfl)
instance : Zero Tryz.prog 123 (.pointer none) := .of (by kernel_rfl)
instance : PtrTy Tryz.prog 123 := ⟨by kernel_rfl⟩
instance : One Tryz.prog 124 := .of (by kernel_rfl)
instance : One Tryz.prog 125 := .of (by kernel_rfl)
instance : One Tryz.prog 126 := .of (by kernel_rfl)
instance : One Tryz.prog 127 := .of (by kernel_rfl)
instance : AggTy Tryz.prog 128 7 := .of (by kernel_rfl)
instance : StructTy Tryz.prog 128 [.int .i64 0, .int .i64 0, str [], .int .i64 0, .int .i64 0, str [], .int .i64 0] [(0, 1), (1, 1), (2, 1), (3, 1), (4, 1), (5, 1), (6, 1)] := .of (by kernel_rfl)
instance : FlatTy Tryz.prog 128 [.i .i64, .i .i64, .s, .i .i64, .i .i64, .s, .i .i64] := ⟨by kernel_rfl⟩
instance : Zero Tryz.prog 128 (.agg #[.int .i64 0, .int .i64 0, str [], .int .i64 0, .int .i64 0, str [], .int .i64 0]) := .of (by kernel_rfl)
instance : FieldOff Tryz.prog 128 0 0 := .of (by kernel_rfl)
instance : FieldOne Tryz.prog 128 0 0 := .of (by kernel_rfl)
instance : FieldOff Tryz.prog 128 1 1 := .of (by kernel_rfl)
instance : FieldOne Tryz.prog 128 1 1 := .of (by kernel_rfl)
instance : FieldOff Tryz.prog 128 2 2 := .of (by kernel_rfl)
instance : FieldOne Tryz.prog 128 2 2 := .of (by kernel_rfl)
instance : FieldOff Tryz.prog 128 3 3 := .of (by kernel_rfl)
instance : FieldOne Tryz.prog 128 3 3 := .of (by kernel_rfl)
instance : FieldOff Tryz.prog 128 4 4 := .of (by kernel_rfl)
instance : FieldOne Tryz.prog 128 4 4 := .of (by kernel_rfl)
instance : FieldOff Tryz.prog 128 5 5 := .of (by kernel_rfl)
instance : FieldOne Tryz.prog 128 5 5 := .of (by kernel_rfl)
instance : FieldOff Tryz.prog 128 6 6 := .of (by kernel_rfl)
instance : FieldOne Tryz.prog 128 6 6 := .of (by kernel_rfl)
instance : AggTy Tryz.prog 129 7 := .of (by kernel_rfl)
instance : StructTy Tryz.prog 129 [.int .i64 0, .int .i64 0, str [], .int .i64 0, .int .i64 0, str [], .int .i64 0] [(0, 1), (1, 1), (2, 1), (3, 1), (4, 1), (5, 1), (6, 1)] := .of (by kernel_rfl)
instance : FlatTy Tryz.prog 129 [.i .i64, .i .i64, .s, .i .i64, .i .i64, .s, .i .i64] := ⟨by kernel_rfl⟩
instance : Zero Tryz.prog 129 (.agg #[.int .i64 0, .int .i64 0, str [], .int .i64 0, .int .i64 0, str [], .int .i64 0]) := .of (by kernel_rfl)
instance : FieldOff Tryz.prog 129 0 0 := .of (by kernel_rfl)
instance : FieldOne Tryz.prog 129 0 0 := .of (by kernel_rfl)
instance : FieldOff Tryz.prog 129 1 1 := .of (by kernel_rfl)
instance : FieldOne Tryz.prog 129 1 1 := .of (by kernel_rfl)
instance : FieldOff Tryz.prog 129 2 2 := .of (by kernel_rfl)
instance : FieldOne Tryz.prog 129 2 2 := .of (by kernel_rfl)
instance : FieldOff Tryz.prog 129 3 3 := .of (by kernel_rfl)
instance : FieldOne Tryz.prog 129 3 3 := .of (by kernel_rfl)
instance : FieldOff Tryz.prog 129 4 4 := .of (by kernel_rfl)
instance : FieldOne Tryz.prog 129 4 4 := .of (by kernel_rfl)
instance : FieldOff Tryz.prog 129 5 5 := .of (by kernel_rfl)
instance : FieldOne Tryz.prog 129 5 5 := .of (by kernel_rfl)
instance : FieldOff Tryz.prog 129 6 6 := .of (by kernel_rfl)
instance : FieldOne Tryz.prog 129 6 6 := .of (by kernel_rfl)
instance : AggTy Tryz.prog 130 2 := .of (by kernel_rfl)
instance : StructTy Tryz.prog 130 [.int .i64 0, .int .i64 0] [(0, 1), (1, 1)] := .of (by kernel_rfl)
instance : FlatTy Tryz.prog 130 [.i .i64, .i .i64] := ⟨by kernel_rfl⟩
instance : Zero Tryz.prog 130 (.agg #[.int .i64 0, .int .i64 0]) := .of (by kernel_rfl)
instance : FieldOff Tryz.prog 130 0 0 := .of (by kernel_rfl)
instance : FieldOne Tryz.prog 130 0 0 := .of (by kernel_rfl)
instance : FieldOff Tryz.prog 130 1 1 := .of (by kernel_rfl)
instance : FieldOne Tryz.prog 130 1 1 := .of (by kernel_rfl)
instance : AggTy Tryz.prog 131 2 := .of (by kernel_rfl)
instance : StructTy Tryz.prog 131 [.int .i64 0, .int .i64 0] [(0, 1), (1, 1)] := .of (by kernel_rfl)
instance : FlatTy Tryz.prog 131 [.i .i64, .i .i64] := ⟨by kernel_rfl⟩
instance : Zero Tryz.prog 131 (.agg #[.int .i64 0, .int .i64 0]) := .of (by kernel_rfl)
instance : FieldOff Tryz.prog 131 0 0 := .of (by kernel_rfl)
instance : FieldOne Tryz.prog 131 0 0 := .of (by kernel_rfl)
instance : FieldOff Tryz.prog 131 1 1 := .of (by kernel_rfl)
instance : FieldOne Tryz.prog 131 1 1 := .of (by kernel_rfl)
instance : One Tryz.prog 132 := .of (by kernel_rfl)
instance : AggTy Tryz.prog 133 1 := .of (by kernel_rfl)
instance : StructTy Tryz.prog 133 [.slice none 0 0] [(0, 1)] := .of (by kernel_rfl)
instance : Zero Tryz.prog 133 (.agg #[.slice none 0 0]) := .of (by kernel_rfl)
instance : FieldOff Tryz.prog 133 0 0 := .of (by kernel_rfl)
instance : FieldOne Tryz.prog 133 0 0 := .of (by kernel_rfl)
instance : AggTy Tryz.prog 134 1 := .of (by kernel_rfl)
instance : StructTy Tryz.prog 134 [.slice none 0 0] [(0, 1)] := .of (by kernel_rfl)
instance : Zero Tryz.prog 134 (.agg #[.slice none 0 0]) := .of (by kernel_rfl)
instance : FieldOff Tryz.prog 134 0 0 := .of (by kernel_rfl)
instance : FieldOne Tryz.prog 134 0 0 := .of (by kernel_rfl)
instance : One Tryz.prog 135 := .of (by kernel_rfl)
instance : One Tryz.prog 136 := .of (by kernel_rfl)
instance : One Tryz.prog 137 := .of (by kernel_rfl)
instance : One Tryz.prog 138 := .of (by kernel_rfl)
instance : One Tryz.prog 139 := .of (by kernel_rfl)
instance : One Tryz.prog 140 := .of (by kernel_rfl)
instance : One Tryz.prog 141 := .of (by kernel_rfl)
instance : One Tryz.prog 142 := .of (by kernel_rfl)
instance : One Tryz.prog 143 := .of (by kernel_rfl)
instance : One Tryz.prog 144 := .of (by kernel_rfl)
instance : One Tryz.prog 145 := .of (by kernel_rfl)
instance : One Tryz.prog 146 := .of (by kernel_rfl)
instance : One Tryz.prog 147 := .of (by kernel_rfl)
instance : One Tryz.prog 148 := .of (by kernel_rfl)
instance : One Tryz.prog 149 := .of (by kernel_rfl)
instance : One Tryz.prog 150 := .of (by kernel_rfl)
instance : One Tryz.prog 151 := .of (by kernel_rfl)
instance : One Tryz.prog 152 := .of (by kernel_rfl)
instance : One Tryz.prog 153 := .of (by kernel_rfl)
instance : One Tryz.prog 154 := .of (by kernel_rfl)
instance : One Tryz.prog 155 := .of (by kernel_rfl)
instance : One Tryz.prog 156 := .of (by kernel_rfl)
instance : One Tryz.prog 157 := .of (by kernel_rfl)
instance : One Tryz.prog 158 := .of (by kernel_rfl)
instance : One Tryz.prog 159 := .of (by kernel_rfl)
instance : One Tryz.prog 160 := .of (by kernel_rfl)
instance : One Tryz.prog 161 := .of (by kernel_rfl)
instance : One Tryz.prog 162 := .of (by kernel_rfl)
instance : One Tryz.prog 163 := .of (by kernel_rfl)
instance : One Tryz.prog 164 := .of (by kernel_rfl)
instance : One Tryz.prog 165 := .of (by kernel_rfl)
instance : One Tryz.prog 166 := .of (by kernel_rfl)
instance : One Tryz.prog 167 := .of (by kernel_rfl)
instance : One Tryz.prog 168 := .of (by kernel_rfl)
instance : One Tryz.prog 169 := .of (by kernel_rfl)
instance : One Tryz.prog 170 := .of (by kernel_rfl)
instance : One Tryz.prog 171 := .of (by kernel_rfl)
instance : One Tryz.prog 172 := .of (by kernel_rfl)
instance : SliceTy Tryz.prog 172 5 1 1 := .of (by kernel_rfl)
instance : Zero Tryz.prog 172 (.slice none 0 0) := .of (by kernel_rfl)
instance : BytesTy Tryz.prog 172 5 := ⟨by kernel_rfl, by kernel_rfl⟩
instance : One Tryz.prog 173 := .of (by kernel_rfl)
instance : One Tryz.prog 174 := .of (by kernel_rfl)
instance : One Tryz.prog 175 := .of (by kernel_rfl)
instance : One Tryz.prog 176 := .of (by kernel_rfl)
instance : Zero Tryz.prog 176 (.pointer none) := .of (by kernel_rfl)
instance : PtrTy Tryz.prog 176 := ⟨by kernel_rfl⟩
instance : One Tryz.prog 177 := .of (by kernel_rfl)
instance : One Tryz.prog 178 := .of (by kernel_rfl)
instance : One Tryz.prog 179 := .of (by kernel_rfl)
instance : One Tryz.prog 180 := .of (by kernel_rfl)
instance : One Tryz.prog 181 := .of (by kernel_rfl)
instance : One Tryz.prog 182 := .of (by kernel_rfl)
instance : One Tryz.prog 183 := .of (by kernel_rfl)
instance : One Tryz.prog 184 := .of (by kernel_rfl)
instance : One Tryz.prog 185 := .of (by kernel_rfl)
instance : Zero Tryz.prog 185 .nilIface := .of (by kernel_rfl)
instance : IfaceTy Tryz.prog 185 := .of (by kernel_rfl)
instance : One Tryz.prog 186 := .of (by kernel_rfl)
instance : Zero Tryz.prog 186 .nilIface := .of (by kernel_rfl)
instance : IfaceTy Tryz.prog 186 := .of (by kernel_rfl)
instance : One Tryz.prog 187 := .of (by kernel_rfl)
instance : One Tryz.prog 188 := .of (by kernel_rfl)
instance : One Tryz.prog 189 := .of (by kernel_rfl)
instance : One Tryz.prog 190 := .of (by kernel_rfl)
instance : One Tryz.prog 191 := .of (by kernel_rfl)
instance : One Tryz.prog 192 := .of (by kernel_rfl)
instance : One Tryz.prog 193 := .of (by kernel_rfl)
instance : One Tryz.prog 194 := .of (by kernel_rfl)
instance : One Tryz.prog 195 := .of (by kernel_rfl)
instance : One Tryz.prog 196 := .of (by kernel_rfl)
instance : One Tryz.prog 197 := .of (by kernel_rfl)
instance : One Tryz.prog 198 := .of (by kernel_rfl)
instance : One Tryz.prog 199 := .of (by kernel_rfl)
instance : One Tryz.prog 200 := .of (by kernel_rfl)
instance : One Tryz.prog 201 := .of (by kernel_rfl)
instance : One Tryz.prog 202 := .of (by kernel_rfl)
instance : One Tryz.prog 203 := .of (by kernel_rfl)
instance : One Tryz.prog 204 := .of (by kernel_rfl)
instance : One Tryz.prog 205 := .of (by kernel_rfl)
instance : One Tryz.prog 206 := .of (by kernel_rfl)
instance : One Tryz.prog 207 := .of (by kernel_rfl)
instance : One Tryz.prog 208 := .of (by kernel_rfl)
instance : One Tryz.prog 209 := .of (by kernel_rfl)
instance : One Tryz.prog 210 := .of (by kernel_rfl)
instance : One Tryz.prog 211 := .of (by kernel_rfl)
instance : One Tryz.prog 212 := .of (by kernel_rfl)
instance : One Tryz.prog 213 := .of (by kernel_rfl)
instance : One Tryz.prog 214 := .of (by kernel_rfl)
instance : One Tryz.prog 215 := .of (by kernel_rfl)
instance : Zero Tryz.prog 215 (.int .i64 0) := .of (by kernel_rfl)
instance : IntTy Tryz.prog 215 .i64 := ⟨by kernel_rfl⟩
instance : One Tryz.prog 216 := .of (by kernel_rfl)
instance : One Tryz.prog 217 := .of (by kernel_rfl)
instance : One Tryz.prog 218 := .of (by kernel_rfl)
instance : One Tryz.prog 219 := .of (by kernel_rfl)
instance : One Tryz.prog 220 := .of (by kernel_rfl)
instance : One Tryz.prog 221 := .of (by kernel_rfl)
instance : One Tryz.prog 222 := .of (by kernel_rfl)
instance : One Tryz.prog 223 := .of (by kernel_rfl)
instance : One Tryz.prog 224 := .of (by kernel_rfl)
instance : One Tryz.prog 225 := .of (by kernel_rfl)
instance : One Tryz.prog 226 := .of (by kernel_rfl)
instance : One Tryz.prog 227 := .of (by kernel_rfl)
instance : One Tryz.prog 228 := .of (by kernel_rfl)
instance : One Tryz.prog 229 := .of (by kernel_rfl)
instance : One Tryz.prog 230 := .of (by kernel_rfl)
instance : One Tryz.prog 231 := .of (by kernel_rfl)
instance : One Tryz.prog 232 := .of (by kernel_rfl)
instance : One Tryz.prog 233 := .of (by kernel_rfl)
instance : One Tryz.prog 234 := .of (by kernel_rfl)
instance : One Tryz.prog 235 := .of (by kernel_rfl)
instance : One Tryz.prog 236 := .of (by kernel_rfl)
instance : One Tryz.prog 237 := .of (by kernel_rfl)
instance : One Tryz.prog 238 := .of (by kernel_rfl)
instance : One Tryz.prog 239 := .of (by kernel_rfl)
instance : One Tryz.prog 240 := .of (by kernel_rfl)
instance : One Tryz.prog 241 := .of (by kernel_rfl)
instance : One Tryz.prog 242 := .of (by kernel_rfl)
instance : One Tryz.prog 243 := .of (by kernel_rfl)
instance : One Tryz.prog 244 := .of (by kernel_rfl)
instance : One Tryz.prog 245 := .of (by kernel_rfl)
instance : One Tryz.prog 246 := .of (by kernel_rfl)
instance : One Tryz.prog 247 := .of (by kernel_rfl)
instance : One Tryz.prog 248 := .of (by kernel_rfl)
instance : One Tryz.prog 249 := .of (by kernel_rfl)
instance : One Tryz.prog 250 := .of (by kernel_rfl)
instance : One Tryz.prog 251 := .of (by kernel_rfl)
instance : One Tryz.prog 252 := .of (by kernel_rfl)
instance : One Tryz.prog 253 := .of (by kernel_rfl)
instance : One Tryz.prog 254 := .of (by kernel_rfl)
instance : One Tryz.prog 255 := .of (by kernel_rfl)
instance : One Tryz.prog 256 := .of (by kernel_rfl)
instance : One Tryz.prog 257 := .of (by kernel_rfl)
instance : One Tryz.prog 258 := .of (by kernel_rfl)
instance : One Tryz.prog 259 := .of (by kernel_rfl)
instance : One Tryz.prog 260 := .of (by kernel_rfl)
instance : One Tryz.prog 261 := .of (by kernel_rfl)
instance : Zero Tryz.prog 261 (.pointer none) := .of (by kernel_rfl)
instance : PtrTy Tryz.prog 261 := ⟨by kernel_rfl⟩
instance : AggTy Tryz.prog 262 2 := .of (by kernel_rfl)
instance : StructTy Tryz.prog 262 [str [], .nilIface] [(0, 1), (1, 1)] := .of (by kernel_rfl)
instance : Zero Tryz.prog 262 (.agg #[str [], .nilIface]) := .of (by kernel_rfl)
instance : FieldOff Tryz.prog 262 0 0 := .of (by kernel_rfl)
instance : FieldOne Tryz.prog 262 0 0 := .of (by kernel_rfl)
instance : FieldOff Tryz.prog 262 1 1 := .of (by kernel_rfl)
instance : FieldOne Tryz.prog 262 1 1 := .of (by kernel_rfl)
instance : AggTy Tryz.prog 263 2 := .of (by kernel_rfl)
instance : StructTy Tryz.prog 263 [str [], .nilIface] [(0, 1), (1, 1)] := .of (by kernel_rfl)
instance : Zero Tryz.prog 263 (.agg #[str [], .nilIface]) := .of (by kernel_rfl)
instance : FieldOff Tryz.prog 263 0 0 := .of (by kernel_rfl)
instance : FieldOne Tryz.prog 263 0 0 := .of (by kernel_rfl)
instance : FieldOff Tryz.prog 263 1 1 := .of (by kernel_rfl)
instance : FieldOne Tryz.prog 263 1 1 := .of (by kernel_rfl)
instance : One Tryz.prog 264 := .of (by kernel_rfl)
instance : One Tryz.prog 265 := .of (by kernel_rfl)
instance : One Tryz.prog 266 := .of (by kernel_rfl)
instance : One Tryz.prog 267 := .of (by kernel_rfl)
instance : One Tryz.prog 268 := .of (by kernel_rfl)
instance : One Tryz.prog 269 := .of (by kernel_rfl)
instance : One Tryz.prog 270 := .of (by kernel_rfl)
instance : One Tryz.prog 271 := .of (by kernel_rfl)
instance : One Tryz.prog 272 := .of (by kernel_rfl)
instance : One Tryz.prog 273 := .of (by kernel_rfl)
instance : One Tryz.prog 274 := .of (by kernel_rfl)
instance : One Tryz.prog 275 := .of (by kernel_rfl)
instance : SliceTy Tryz.prog 275 2 1 8 := .of (by kernel_rfl)
instance : Zero Tryz.prog 275 (.slice none 0 0) := .of (by kernel_rfl)
instance : One Tryz.prog 276 := .of (by kernel_rfl)
instance : One Tryz.prog 277 := .of (by kernel_rfl)
instance : One Tryz.prog 278 := .of (by kernel_rfl)
instance : One Tryz.prog 279 := .of (by kernel_rfl)
instance : Zero Tryz.prog 279 (.pointer none) := .of (by kernel_rfl)
instance : PtrTy Tryz.prog 279 := ⟨by kernel_rfl⟩
instance : One Tryz.prog 280 := .of (by kernel_rfl)
instance : One Tryz.prog 281 := .of (by kernel_rfl)
instance : One Tryz.prog 282 := .of (by kernel_rfl)
instance : One Tryz.prog 283 := .of (by kernel_rfl)
instance : One Tryz.prog 284 := .of (by kernel_rfl)
instance : One Tryz.prog 285 := .of (by kernel_rfl)
instance : One Tryz.prog 286 := .of (by kernel_rfl)
instance : One Tryz.prog 287 := .of (by kernel_rfl)
instance : One Tryz.prog 288 := .of (by kernel_rfl)
instance : Zero Tryz.prog 288 (.int .u64 0) := .of (by kernel_rfl)
instance : IntTy Tryz.prog 288 .u64 := ⟨by kernel_rfl⟩
instance : One Tryz.prog 289 := .of (by kernel_rfl)
instance : One Tryz.prog 290 := .of (by kernel_rfl)
instance : Zero Tryz.prog 290 (.pointer none) := .of (by kernel_rfl)
instance : PtrTy Tryz.prog 290 := ⟨by kernel_rfl⟩
instance : One Tryz.prog 291 := .of (by kernel_rfl)
instance : One Tryz.prog 292 := .of (by kernel_rfl)
instance : One Tryz.prog 293 := .of (by kernel_rfl)
instance : Zero Tryz.prog 293 (.int .u32 0) := .of (by kernel_rfl)
instance : IntTy Tryz.prog 293 .u32 := ⟨by kernel_rfl⟩
instance : One Tryz.prog 294 := .of (by kernel_rfl)
instance : One Tryz.prog 295 := .of (by kernel_rfl)
instance : AggTy Tryz.prog 296 4 := .of (by kernel_rfl)
instance : StructTy Tryz.prog 296 [.pointer none, .pointer none, .pointer none, str []] [(0, 1), (1, 1), (2, 1), (3, 1)] := .of (by kernel_rfl)
instance : Zero Tryz.prog 296 (.agg #[.pointer none, .pointer none, .pointer none, str []]) := .of (by kernel_rfl)
instance : FieldOff Tryz.prog 296 0 0 := .of (by kernel_rfl)
instance : FieldOne Tryz.prog 296 0 0 := .of (by kernel_rfl)
instance : FieldOff Tryz.prog 296 1 1 := .of (by kernel_rfl)
instance : FieldOne Tryz.prog 296 1 1 := .of (by kernel_rfl)
instance : FieldOff Tryz.prog 296 2 2 := .of (by kernel_rfl)
instance : FieldOne Tryz.prog 296 2 2 := .of (by kernel_rfl)
instance : FieldOff Tryz.prog 296 3 3 := .of (by kernel_rfl)
instance : FieldOne Tryz.prog 296 3 3 := .of (by kernel_rfl)
instance : AggTy Tryz.prog 297 4 := .of (by kernel_rfl)
instance : StructTy Tryz.prog 297 [.pointer none, .pointer none, .pointer none, str []] [(0, 1), (1, 1), (2, 1), (3, 1)] := .of (by kernel_rfl)
instance : Zero Tryz.prog 297 (.agg #[.pointer none, .pointer none, .pointer none, str []]) := .of (by kernel_rfl)
instance : FieldOff Tryz.prog 297 0 0 := .of (by kernel_rfl)
instance : FieldOne Tryz.prog 297 0 0 := .of (by kernel_rfl)
instance : FieldOff Tryz.prog 297 1 1 := .of (by kernel_rfl)
instance : FieldOne Tryz.prog 297 1 1 := .of (by kernel_rfl)
instance : FieldOff Tryz.prog 297 2 2 := .of (by kernel_rfl)
instance : FieldOne Tryz.prog 297 2 2 := .of (by kernel_rfl)
instance : FieldOff Tryz.prog 297 3 3 := .of (by kernel_rfl)
instance : FieldOne Tryz.prog 297 3 3 := .of (by kernel_rfl)
instance : AggTy Tryz.prog 298 0 := .of (by kernel_rfl)
instance : ArrTy Tryz.prog 298 0 16 1 := .of (by kernel_rfl)
instance : Zero Tryz.prog 298 (.agg #[]) := .of (by kernel_rfl)
instance : AggTy Tryz.prog 299 0 := .of (by kernel_rfl)
instance : StructTy Tryz.prog 299 [] [(0, 0)] := .of (by kernel_rfl)
instance : Zero Tryz.prog 299 (.agg #[]) := .of (by kernel_rfl)
instance : AggTy Tryz.prog 300 0 := .of (by kernel_rfl)
instance : StructTy Tryz.prog 300 [] [(0, 0)] := .of (by kernel_rfl)
instance : Zero Tryz.prog 300 (.agg #[]) := .of (by kernel_rfl)
instance : One Tryz.prog 301 := .of (by kernel_rfl)
instance : Zero Tryz.prog 301 (.int .u8 0) := .of (by kernel_rfl)
instance : IntTy Tryz.prog 301 .u8 := ⟨by kernel_rfl⟩
instance : One Tryz.prog 302 := .of (by kernel_rfl)
instance : Zero Tryz.prog 302 (.int .u8 0) := .of (by kernel_rfl)
instance : IntTy Tryz.prog 302 .u8 := ⟨by kernel_rfl⟩
instance : One Tryz.prog 303 := .of (by kernel_rfl)
instance : One Tryz.prog 304 := .of (by kernel_rfl)
instance : Zero Tryz.prog 304 (.pointer none) := .of (by kernel_rfl)
instance : PtrTy Tryz.prog 304 := ⟨by kernel_rfl⟩
instance : One Tryz.prog 305 := .of (by kernel_rfl)
instance : Zero Tryz.prog 305 (.int .i32 0) := .of (by kernel_rfl)
instance : IntTy Tryz.prog 305 .i32 := ⟨by kernel_rfl⟩
instance : One Tryz.prog 306 := .of (by kernel_rfl)
instance : Zero Tryz.prog 306 (.int .i32 0) := .of (by kernel_rfl)
instance : IntTy Tryz.prog 306 .i32 := ⟨by kernel_rfl⟩
instance : AggTy Tryz.prog 307 11 := .of (by kernel_rfl)
instance : FieldOff Tryz.prog 307 0 0 := .of (by kernel_rfl)
instance : FieldOne Tryz.prog 307 0 0 := .of (by kernel_rfl)
instance : FieldOff Tryz.prog 307 1 1 := .of (by kernel_rfl)
instance : FieldOne Tryz.prog 307 1 1 := .of (by kernel_rfl)
instance : FieldOff Tryz.prog 307 2 2 := .of (by kernel_rfl)
instance : FieldOne Tryz.prog 307 2 2 := .of (by kernel_rfl)
instance : FieldOff Tryz.prog 307 3 3 := .of (by kernel_rfl)
instance : FieldOne Tryz.prog 307 3 3 := .of (by kernel_rfl)
instance : FieldOff Tryz.prog 307 4 4 := .of (by kernel_rfl)
instance : FieldOne Tryz.prog 307 4 4 := .of (by kernel_rfl)
instance : FieldOff Tryz.prog 307 5 5 := .of (by kernel_rfl)
instance : FieldOne Tryz.prog 307 5 5 := .of (by kernel_rfl)
instance : FieldOff Tryz.prog 307 6 6 := .of (by kernel_rfl)
instance : FieldOne Tryz.prog 307 6 6 := .of (by kernel_rfl)
instance : FieldOff Tryz.prog 307 7 7 := .of (by kernel_rfl)
instance : FieldOne Tryz.prog 307 7 7 := .of (by kernel_rfl)
instance : FieldOff Tryz.prog 307 8 8 := .of (by kernel_rfl)
instance : FieldOne Tryz.prog 307 8 8 := .of (by kernel_rfl)
instance : FieldOff Tryz.prog 307 9 9 := .of (by kernel_rfl)
instance : FieldOne Tryz.prog 307 9 9 := .of (by kernel_rfl)
instance : FieldOff Tryz.prog 307 10 10 := .of (by kernel_rfl)
instance : FieldOne Tryz.prog 307 10 10 := .of (by kernel_rfl)
instance : AggTy Tryz.prog 308 11 := .of (by kernel_rfl)
instance : FieldOff Tryz.prog 308 0 0 := .of (by kernel_rfl)
instance : FieldOne Tryz.prog 308 0 0 := .of (by kernel_rfl)
instance : FieldOff Tryz.prog 308 1 1 := .of (by kernel_rfl)
instance : FieldOne Tryz.prog 308 1 1 := .of (by kernel_rfl)
instance : FieldOff Tryz.prog 308 2 2 := .of (by kernel_rfl)
instance : FieldOne Tryz.prog 308 2 2 := .of (by kernel_rfl)
instance : FieldOff Tryz.prog 308 3 3 := .of (by kernel_rfl)
instance : FieldOne Tryz.prog 308 3 3 := .of (by kernel_rfl)
instance : FieldOff Tryz.prog 308 4 4 := .of (by kernel_rfl)
instance : FieldOne Tryz.prog 308 4 4 := .of (by kernel_rfl)
instance : FieldOff Tryz.prog 308 5 5 := .of (by kernel_rfl)
instance : FieldOne Tryz.prog 308 5 5 := .of (by kernel_rfl)
instance : FieldOff Tryz.prog 308 6 6 := .of (by kernel_rfl)
instance : FieldOne Tryz.prog 308 6 6 := .of (by kernel_rfl)
instance : FieldOff Tryz.prog 308 7 7 := .of (by kernel_rfl)
instance : FieldOne Tryz.prog 308 7 7 := .of (by kernel_rfl)
instance : FieldOff Tryz.prog 308 8 8 := .of (by kernel_rfl)
instance : FieldOne Tryz.prog 308 8 8 := .of (by kernel_rfl)
instance : FieldOff Tryz.prog 308 9 9 := .of (by kernel_rfl)
instance : FieldOne Tryz.prog 308 9 9 := .of (by kernel_rfl)
instance : FieldOff Tryz.prog 308 10 10 := .of (by kernel_rfl)
instance : FieldOne Tryz.prog 308 10 10 := .of (by kernel_rfl)
instance : One Tryz.prog 309 := .of (by kernel_rfl)
instance : Zero Tryz.prog 309 (.pointer none) := .of (by kernel_rfl)
instance : Callable Tryz.prog 2 := .of (by kernel_rfl)
instance : Callable Tryz.prog 3 := .of (by kernel_rfl)
instance : Callable Tryz.prog 4 := .of (by kernel_rfl)
instance : Callable Tryz.prog 5 := .of (by kernel_rfl)
instance : Callable Tryz.prog 6 := .of (by kernel_rfl)
instance : Callable Tryz.prog 7 := .of (by kernel_rfl)
instance : Callable Tryz.prog 8 := .of (by kernel_rfl)
instance : Callable Tryz.prog 9 := .of (by kernel_rfl)
instance : Callable Tryz.prog 10 := .of (by kernel_rfl)
instance : Callable Tryz.prog 11 := .of (by kernel_rfl)
instance : Callable Tryz.prog 12 := .of (by kernel_rfl)
instance : Callable Tryz.prog 13 := .of (by kernel_rfl)
instance : Callable Tryz.prog 14 := .of (by kernel_rfl)
instance : Callable Tryz.prog 15 := .of (by kernel_rfl)
instance : Callable Tryz.prog 16 := .of (by kernel_rfl)
instance : Callable Tryz.prog 17 := .of (by kernel_rfl)
instance : Callable Tryz.prog 18 := .of (by kernel_rfl)
instance : Callable Tryz.prog 19 := .of (by kernel_rfl)
instance : Callable Tryz.prog 20 := .of (by kernel_rfl)
instance : Callable Tryz.prog 21 := .of (by kernel_rfl)
instance : Callable Tryz.prog 22 := .of (by kernel_rfl)
instance : Callable Tryz.prog 23 := .of (by kernel_rfl)
instance : Callable Tryz.prog 24 := .of (by kernel_rfl)
instance : Callable Tryz.prog 25 := .of (by kernel_rfl)
instance : Callable Tryz.prog 26 := .of (by kernel_rfl)
instance : Callable Tryz.prog 27 := .of (by kernel_rfl)
instance : Callable Tryz.prog 28 := .of (by kernel_rfl)
instance : Callable Tryz.prog 29 := .of (by kernel_rfl)
instance : Callable Tryz.prog 30 := .of (by kernel_rfl)
instance : Callable Tryz.prog 31 := .of (by kernel_rfl)
instance : Callable Tryz.prog 32 := .of (by kernel_rfl)
instance : Callable Tryz.prog 33 := .of (by kernel_rfl)
instance : Callable Tryz.prog 34 := .of (by kernel_rfl)
instance : Callable Tryz.prog 35 := .of (by kernel_rfl)
instance : Callable Tryz.prog 36 := .of (by kernel_rfl)
instance : Callable Tryz.prog 37 := .of (by kernel_rfl)
instance : Callable Tryz.prog 38 := .of (by kernel_rfl)
instance : Callable Tryz.prog 39 := .of (by kernel_rfl)
instance : Callable Tryz.prog 40 := .of (by kernel_rfl)
instance : Callable Tryz.prog 41 := .of (by kernel_rfl)
instance : Callable Tryz.prog 42 := .of (by kernel_rfl)
instance : Callable Tryz.prog 43 := .of (by kernel_rfl)
instance : Callable Tryz.prog 44 := .of (by kernel_rfl)
instance : Callable Tryz.prog 45 := .of (by kernel_rfl)
instance : Callable Tryz.prog 46 := .of (by kernel_rfl)
instance : Callable Tryz.prog 47 := .of (by kernel_rfl)
instance : Callable Tryz.prog 48 := .of (by kernel_rfl)
instance : Callable Tryz.prog 49 := .of (by kernel_rfl)
instance : Callable Tryz.prog 50 := .of (by kernel_rfl)
instance : Callable Tryz.prog 51 := .of (by kernel_rfl)
instance : Callable Tryz.prog 52 := .of (by kernel_rfl)
instance : Callable Tryz.prog 53 := .of (by kernel_rfl)
instance : Callable Tryz.prog 54 := .of (by kernel_rfl)
instance : Callable Tryz.prog 55 := .of (by kernel_rfl)
instance : Callable Tryz.prog 56 := .of (by kernel_rfl)
instance : Callable Tryz.prog 57 := .of (by kernel_rfl)
instance : Callable Tryz.prog 58 := .of (by kernel_rfl)
instance : Callable Tryz.prog 59 := .of (by kernel_rfl)
instance : Callable Tryz.prog 60 := .of (by kernel_rfl)
instance : Callable Tryz.prog 61 := .of (by kernel_rfl)
instance : Callable Tryz.prog 62 := .of (by kernel_rfl)
instance : Callable Tryz.prog 63 := .of (by kernel_rfl)
instance : Callable Tryz.prog 64 := .of (by kernel_rfl)
instance : Callable Tryz.prog 65 := .of (by kernel_rfl)
instance : Callable Tryz.prog 66 := .of (by kernel_rfl)
instance : Callable Tryz.prog 67 := .of (by kernel_rfl)
instance : Callable Tryz.prog 68 := .of (by kernel_rfl)
instance : Callable Tryz.prog 69 := .of (by kernel_rfl)
instance : Callable Tryz.prog 70 := .of (by kernel_rfl)
instance : Callable Tryz.prog 71 := .of (by kernel_rfl)
instance : Callable Tryz.prog 72 := .of (by kernel_rfl)
instance : Callable Tryz.prog 73 := .of (by kernel_rfl)
instance : Callable Tryz.prog 74 := .of (by kernel_rfl)
instance : Callable Tryz.prog 75 := .of (by kernel_rfl)
instance : Callable Tryz.prog 76 := .of (by kernel_rfl)
instance : Callable Tryz.prog 77 := .of (by kernel_rfl)
instance : Callable Tryz.prog 78 := .of (by kernel_rfl)
instance : Callable Tryz.prog 79 := .of (by kernel_rfl)
instance : Callable Tryz.prog 80 := .of (by kernel_rfl)
instance : Callable Tryz.prog 81 := .of (by kernel_rfl)
instance : Callable Tryz.prog 82 := .of (by kernel_rfl)
instance : Callable Tryz.prog 83 := .of (by kernel_rfl)
instance : Callable Tryz.prog 84 := .of (by kernel_rfl)
instance : Callable Tryz.prog 85 := .of (by kernel_rfl)
instance : Callable Tryz.prog 86 := .of (by kernel_rfl)
instance : Callable Tryz.prog 87 := .of (by kernel_rfl)
instance : Callable Tryz.prog 88 := .of (by kernel_rfl)
instance : Callable Tryz.prog 89 := .of (by kernel_rfl)
instance : Callable Tryz.prog 90 := .of (by kernel_rfl)
instance : Callable Tryz.prog 91 := .of (by kernel_rfl)
instance : Callable Tryz.prog 92 := .of (by kernel_rfl)
instance : Callable Tryz.prog 93 := .of (by kernel_rfl)
instance : Callable Tryz.prog 94 := .of (by kernel_rfl)
instance : Callable Tryz.prog 95 := .of (by kernel_rfl)
instance : Callable Tryz.prog 96 := .of (by kernel_rfl)
instance : Callable Tryz.prog 97 := .of (by kernel_rfl)
instance : Callable Tryz.prog 98 := .of (by kernel_rfl)
instance : Callable Tryz.prog 99 := .of (by kernel_rfl)
instance : Callable Tryz.prog 100 := .of (by kernel_rfl)
instance : Callable Tryz.prog 101 := .of (by kernel_rfl)
instance : Callable Tryz.prog 102 := .of (by kernel_rfl)
instance : Callable Tryz.prog 103 := .of (by kernel_rfl)
instance : Callable Tryz.prog 104 := .of (by kernel_rfl)
instance : Callable Tryz.prog 105 := .of (by kernel_rfl)
instance : Callable Tryz.prog 106 := .of (by kernel_rfl)
instance : Callable Tryz.prog 107 := .of (by kernel_rfl)
instance : Callable Tryz.prog 108 := .of (by kernel_rfl)
instance : Callable Tryz.prog 109 := .of (by kernel_rfl)
instance : Callable Tryz.prog 110 := .of (by kernel_rfl)
instance : Callable Tryz.prog 111 := .of (by kernel_rfl)
instance : Callable Tryz.prog 112 := .of (by kernel_rfl)
instance : Callable Tryz.prog 113 := .of (by kernel_rfl)
instance : Callable Tryz.prog 114 := .of (by kernel_rfl)
instance : Callable Tryz.prog 115 := .of (by kernel_rfl)
instance : Callable Tryz.prog 116 := .of (by kernel_rfl)
instance : Callable Tryz.prog 117 := .of (by kernel_rfl)
instance : Callable Tryz.prog 118 := .of (by kernel_rfl)
instance : Callable Tryz.prog 119 := .of (by kernel_rfl)
instance : Callable Tryz.prog 120 := .of (by kernel_rfl)
instance : Callable Tryz.prog 121 := .of (by kernel_rfl)
instance : Callable Tryz.prog 122 := .of (by kernel_rfl)
instance : Callable Tryz.prog 123 := .of (by kernel_rfl)
instance : Callable Tryz.prog 124 := .of (by kernel_rfl)
instance : Callable Tryz.prog 125 := .of (by kernel_rfl)
instance : Callable Tryz.prog 126 := .of (by kernel_rfl)
instance : Callable Tryz.prog 127 := .of (by kernel_rfl)
instance : Callable Tryz.prog 128 := .of (by kernel_rfl)
instance : Callable Tryz.prog 129 := .of (by kernel_rfl)
instance : Callable Tryz.prog 130 := .of (by kernel_rfl)
instance : Callable Tryz.prog 131 := .of (by kernel_rfl)
instance : Callable Tryz.prog 132 := .of (by kernel_rfl)
instance : Callable Tryz.prog 133 := .of (by kernel_rfl)
instance : Callable Tryz.prog 134 := .of (by kernel_rfl)
instance : Callable Tryz.prog 135 := .of (by kernel_rfl)
instance : Callable Tryz.prog 136 := .of (by kernel_rfl)
instance : Callable Tryz.prog 137 := .of (by kernel_rfl)
instance : Callable Tryz.prog 138 := .of (by kernel_rfl)
instance : Callable Tryz.prog 139 := .of (by kernel_rfl)
instance : Callable Tryz.prog 140 := .of (by kernel_rfl)
instance : Callable Tryz.prog 141 := .of (by kernel_rfl)
instance : Callable Tryz.prog 142 := .of (by kernel_rfl)
instance : Callable Tryz.prog 143 := .of (by kernel_rfl)
instance : Callable Tryz.prog 144 := .of (by kernel_rfl)
instance : Callable Tryz.prog 145 := .of (by kernel_rfl)
instance : Callable Tryz.prog 146 := .of (by kernel_rfl)
instance : Callable Tryz.prog 147 := .of (by kernel_rfl)
instance : Callable Tryz.prog 148 := .of (by kernel_rfl)
instance : Callable Tryz.prog 149 := .of (by kernel_rfl)
instance : Callable Tryz.prog 150 := .of (by kernel_rfl)
instance : Callable Tryz.prog 151 := .of (by kernel_rfl)
instance : Callable Tryz.prog 152 := .of (by kernel_rfl)
instance : Callable Tryz.prog 153 := .of (by kernel_rfl)
instance : Callable Tryz.prog 154 := .of (by kernel_rfl)
instance : Callable Tryz.prog 155 := .of (by kernel_rfl)
instance : Callable Tryz.prog 156 := .of (by kernel_rfl)
instance : Callable Tryz.prog 157 := .of (by kernel_rfl)
instance : Callable Tryz.prog 158 := .of (by kernel_rfl)
instance : Callable Tryz.prog 159 := .of (by kernel_rfl)
instance : Callable Tryz.prog 160 := .of (by kernel_rfl)
instance : Callable Tryz.prog 161 := .of (by kernel_rfl)
instance : Callable Tryz.prog 162 := .of (by kernel_rfl)
instance : Callable Tryz.prog 163 := .of (by kernel_rfl)
instance : Callable Tryz.prog 164 := .of (by kernel_rfl)
instance : Callable Tryz.prog 165 := .of (by kernel_rfl)
instance : Callable Tryz.prog 166 := .of (by kernel_rfl)
instance : Callable Tryz.prog 167 := .of (by kernel_rfl)
instance : Callable Tryz.prog 168 := .of (by kernel_rfl)
instance : Callable Tryz.prog 169 := .of (by kernel_rfl)
instance : Callable Tryz.prog 170 := .of (by kernel_rfl)
instance : Callable Tryz.prog 171 := .of (by kernel_rfl)
instance : Callable Tryz.prog 172 := .of (by kernel_rfl)
instance : Callable Tryz.prog 173 := .of (by kernel_rfl)
instance : Callable Tryz.prog 174 := .of (by kernel_rfl)
instance : Callable Tryz.prog 175 := .of (by kernel_rfl)
instance : Callable Tryz.prog 176 := .of (by kernel_rfl)
instance : Callable Tryz.prog 177 := .of (by kernel_rfl)
instance : Callable Tryz.prog 178 := .of (by kernel_rfl)
instance : Callable Tryz.prog 179 := .of (by kernel_rfl)
instance : Callable Tryz.prog 180 := .of (by kernel_rfl)
instance : Callable Tryz.prog 181 := .of (by kernel_rfl)
instance : Callable Tryz.prog 182 := .of (by kernel_rfl)
instance : Callable Tryz.prog 183 := .of (by kernel_rfl)
instance : Callable Tryz.prog 184 := .of (by kernel_rfl)
instance : Callable Tryz.prog 185 := .of (by kernel_rfl)
instance : Callable Tryz.prog 186 := .of (by kernel_rfl)
instance : Callable Tryz.prog 187 := .of (by kernel_rfl)
instance : Callable Tryz.prog 188 := .of (by kernel_rfl)
instance : Callable Tryz.prog 189 := .of (by kernel_rfl)
instance : Callable Tryz.prog 190 := .of (by kernel_rfl)
instance : Callable Tryz.prog 191 := .of (by kernel_rfl)
instance : Callable Tryz.prog 192 := .of (by kernel_rfl)
instance : Callable Tryz.prog 193 := .of (by kernel_rfl)
instance : Callable Tryz.prog 194 := .of (by kernel_rfl)
instance : Callable Tryz.prog 195 := .of (by kernel_rfl)
instance : Callable Tryz.prog 196 := .of (by kernel_rfl)
instance : Callable Tryz.prog 197 := .of (by kernel_rfl)
instance : Callable Tryz.prog 198 := .of (by kernel_rfl)
instance : Callable Tryz.prog 199 := .of (by kernel_rfl)
instance : Callable Tryz.prog 200 := .of (by kernel_rfl)
instance : Callable Tryz.prog 201 := .of (by kernel_rfl)
instance : Callable Tryz.prog 202 := .of (by kernel_rfl)
instance : Callable Tryz.prog 203 := .of (by kernel_rfl)
instance : Callable Tryz.prog 204 := .of (by kernel_rfl)
instance : Callable Tryz.prog 205 := .of (by kernel_rfl)
instance : Callable Tryz.prog 206 := .of (by kernel_rfl)
instance : Callable Tryz.prog 207 := .of (by kernel_rfl)
instance : Callable Tryz.prog 208 := .of (by kernel_rfl)
instance : Callable Tryz.prog 209 := .of (by kernel_rfl)
instance : Callable Tryz.prog 210 := .of (by kernel_rfl)
instance : Callable Tryz.prog 211 := .of (by kernel_rfl)
instance : Callable Tryz.prog 212 := .of (by kernel_rfl)
instance : Callable Tryz.prog 213 := .of (by kernel_rfl)
instance : Callable Tryz.prog 214 := .of (by kernel_rfl)
instance : Callable Tryz.prog 215 := .of (by kernel_rfl)
instance : Callable Tryz.prog 216 := .of (by kernel_rfl)
instance : Callable Tryz.prog 217 := .of (by kernel_rfl)
instance : Callable Tryz.prog 218 := .of (by kernel_rfl)
instance : Callable Tryz.prog 219 := .of (by kernel_rfl)
instance : Callable Tryz.prog 220 := .of (by kernel_rfl)
instance : Callable Tryz.prog 221 := .of (by kernel_rfl)
instance : Callable Tryz.prog 222 := .of (by kernel_rfl)
instance : Callable Tryz.prog 223 := .of (by kernel_rfl)
instance : Callable Tryz.prog 224 := .of (by kernel_rfl)
instance : Callable Tryz.prog 225 := .of (by kernel_rfl)
instance : Callable Tryz.prog 226 := .of (by kernel_rfl)
instance : Callable Tryz.prog 227 := .of (by kernel_rfl)
instance : Callable Tryz.prog 228 := .of (by kernel_rfl)
instance : Callable Tryz.prog 229 := .of (by kernel_rfl)
instance : Callable Tryz.prog 230 := .of (by kernel_rfl)
instance : Callable Tryz.prog 231 := .of (by kernel_rfl)
instance : Callable Tryz.prog 232 := .of (by kernel_rfl)
instance : Callable Tryz.prog 233 := .of (by kernel_rfl)
instance : Callable Tryz.prog 234 := .of (by kernel_rfl)
instance : Callable Tryz.prog 235 := .of (by kernel_rfl)
instance : Callable Tryz.prog 236 := .of (by kernel_rfl)
instance : Callable Tryz.prog 237 := .of (by kernel_rfl)
instance : Callable Tryz.prog 238 := .of (by kernel_rfl)
instance : Callable Tryz.prog 239 := .of (by kernel_rfl)
instance : Callable Tryz.prog 240 := .of (by kernel_rfl)
instance : Callable Tryz.prog 241 := .of (by kernel_rfl)
instance : Callable Tryz.prog 242 := .of (by kernel_rfl)
instance : Callable Tryz.prog 243 := .of (by kernel_rfl)
instance : Callable Tryz.prog 244 := .of (by kernel_rfl)
instance : Callable Tryz.prog 245 := .of (by kernel_rfl)
instance : Callable Tryz.prog 246 := .of (by kernel_rfl)
instance : Callable Tryz.prog 247 := .of (by kernel_rfl)
instance : Callable Tryz.prog 248 := .of (by kernel_rfl)
instance : Callable Tryz.prog 249 := .of (by kernel_rfl)
instance : Callable Tryz.prog 250 := .of (by kernel_rfl)
instance : Callable Tryz.prog 251 := .of (by kernel_rfl)
instance : Callable Tryz.prog 252 := .of (by kernel_rfl)
instance : Callable Tryz.prog 253 := .of (by kernel_rfl)
instance : Callable Tryz.prog 254 := .of (by kernel_rfl)
instance : Callable Tryz.prog 255 := .of (by kernel_rfl)
instance : Callable Tryz.prog 256 := .of (by kernel_rfl)
instance : Callable Tryz.prog 257 := .of (by kernel_rfl)
instance : Callable Tryz.prog 258 := .of (by kernel_rfl)
instance : Callable Tryz.prog 259 := .of (by kernel_rfl)
instance : Callable Tryz.prog 260 := .of (by kernel_rfl)
instance : Callable Tryz.prog 261 := .of (by kernel_rfl)
instance : Callable Tryz.prog 262 := .of (by kernel_rfl)
instance : Callable Tryz.prog 263 := .of (by kernel_rfl)
instance : Callable Tryz.prog 264 := .of (by kernel_rfl)
instance : Callable Tryz.prog 265 := .of (by kernel_rfl)
instance : Callable Tryz.prog 266 := .of (by kernel_rfl)
instance : Callable Tryz.prog 267 := .of (by kernel_rfl)
instance : Callable Tryz.prog 268 := .of (by kernel_rfl)
instance : Callable Tryz.prog 269 := .of (by kernel_rfl)
instance : Callable Tryz.prog 270 := .of (by kernel_rfl)
instance : Callable Tryz.prog 271 := .of (by kernel_rfl)
instance : Callable Tryz.prog 272 := .of (by kernel_rfl)
instance : Callable Tryz.prog 273 := .of (by kernel_rfl)
instance : Callable Tryz.prog 274 := .of (by kernel_rfl)
instance : Callable Tryz.prog 275 := .of (by kernel_rfl)
instance : Callable Tryz.prog 276 := .of (by kernel_rfl)
instance : Callable Tryz.prog 277 := .of (by kernel_rfl)
instance : Callable Tryz.prog 278 := .of (by kernel_rfl)
instance : Callable Tryz.prog 279 := .of (by kernel_rfl)
instance : Callable Tryz.prog 280 := .of (by kernel_rfl)
instance : Callable Tryz.prog 281 := .of (by kernel_rfl)
instance : Callable Tryz.prog 282 := .of (by kernel_rfl)
instance : Callable Tryz.prog 283 := .of (by kernel_rfl)
instance : Callable Tryz.prog 284 := .of (by kernel_rfl)
instance : Callable Tryz.prog 285 := .of (by kernel_rfl)
instance : Callable Tryz.prog 287 := .of (by kernel_rfl)
instance : Callable Tryz.prog 288 := .of (by kernel_rfl)
instance : Callable Tryz.prog 289 := .of (by kernel_rfl)
instance : Callable Tryz.prog 290 := .of (by kernel_rfl)
instance : Callable Tryz.prog 291 := .of (by kernel_rfl)
instance : Callable Tryz.prog 293 := .of (by kernel_rfl)
instance : Callable Tryz.prog 294 := .of (by kernel_rfl)
theorem mixed : Tryz.prog.follows .mixedOrders = true := by kernel_rfl
end Go.Proofs.YtflmbhkjhfmeoaaGreat
namespace Go.SL
def ens : List (Int × Int) → Nat → List MapEntry
  | [], _ => []
  | p :: r, i => ⟨.int .i64 p.1, .int .i64 p.2, i⟩ :: ens r (i + 1)
theorem ens_app : ∀ (l r : List (Int × Int)) (i : Nat), ens (l ++ r) i = ens l i ++ ens r (i + l.length)
  | [], r, i => by simp [ens]
  | p :: l, r, i => by simp only [List.cons_append, ens, List.length_cons]; rw [ens_app l r, show i + 1 + l.length = i + (l.length + 1) from by omega]
def mp (b : Nat) (l : List (Int × Int)) : HProp := fun f => f = one b (false, .map (ens l 0).toArray l.length)
section
variable {o : Outer} {w : World} {b : Nat} {l : List (Int × Int)} {r : List HProp}
theorem Sat.mp_at (h : Sat o w (mp b l :: r)) : w.heap[b]? = some (.map (ens l 0).toArray l.length) := by
  obtain ⟨f, rfl, hf⟩ := h.head
  exact hf b _ (one_self _ _)
theorem Sat.mp_new (h : Sat o w r) : Sat o (w.alloc (.map #[] 0)) (mp w.heap.size [] :: r) := by
  refine h.more h.1 ⟨_, rfl, fun b x hb => ?_, fun b x hb => ?_⟩ (fun b hb => RowKit.Below.heap_alloc w _ b hb)
  · obtain ⟨rfl, rfl⟩ := one_some hb; exact heap_alloc_new w _
  · obtain ⟨rfl, _⟩ := one_some hb; exact Nat.le_refl _
theorem Sat.mp_set (h : Sat o w (mp b l :: r)) (l' : List (Int × Int)) : Sat o { w with heap := w.heap.setIfInBounds b (.map (ens l' 0).toArray l'.length) } (mp b l' :: r) := by
  refine h.turn h.1 ?_
  rintro f rfl hf
  have hb := hf b _ (one_self _ _)
  have hlt := (Array.getElem?_eq_some_iff.1 hb).1
  refine ⟨_, rfl, fun k x hk => ?_, fun k x hk => ?_, fun k hk hne => ?_⟩
  · obtain ⟨rfl, rfl⟩ := one_some hk
    simp [hlt]
  · obtain ⟨rfl, _⟩ := one_some hk
    exact .inl ⟨_, one_self _ _⟩
  · have hkb : k ≠ b := fun e => by subst e; exact hne _ (one_self _ _)
    simp [Ne.symm hkb]
end
def Miss (l : List (Int × Int)) (k : Int) : Prop := ∀ p ∈ l, p.1 ≠ k
theorem miss_now : ∀ {l : List (Int × Int)} {k : Int} (i j : Nat), Miss l k → Instr.findNow (.int .i64) (.int .i64 k) (ens l i) j = some none
  | [], _, _, _, _ => rfl
  | p :: r, k, i, j, h => by
    have h1 : (k == p.1) = false := by have := h p List.mem_cons_self; simpa using Ne.symm this
    simp only [ens, Instr.findNow, Instr.sameNow, if_true, h1]
    exact miss_now _ _ fun q hq => h q (List.mem_cons_of_mem _ hq)
theorem last_now : ∀ {l : List (Int × Int)} {k v : Int} (i j : Nat), Miss l k → Instr.findNow (.int .i64) (.int .i64 k) (ens (l ++ [(k, v)]) i) j = some (some (j + l.length, .int .i64 v))
  | [], k, v, i, j, _ => by simp [ens, Instr.findNow, Instr.sameNow]
  | p :: r, k, v, i, j, h => by
    have h1 : (k == p.1) = false := by have := h p List.mem_cons_self; simpa using Ne.symm this
    simp only [List.cons_append, ens, Instr.findNow, Instr.sameNow, if_true, h1]
    rw [last_now _ _ fun q hq => h q (List.mem_cons_of_mem _ hq)]
    simp; omega
class MapTy (P : Program) (t : TypeId) (k e : outParam TypeId) : Prop where
  ty : P.underlying t = some (.map k e)
  key : P.underlying k = some (.int .i64)
  zero : ∀ w, (zeroValue e).run P w = .ok (.int .i64 0) w
section
variable {P : Program} {n : Nat} {o : Outer} {sr : List Tmp} {ops : Array Oper} {Q : Post} {St : List HProp} {rest : List Oper} {xs : Env} {hs : List HProp}
variable {d : Option Tmp} {ty : TypeId} {pos : String} {af : Array Edge}
theorem W.mkmap {t : TypeId} (hd : fits n d = true) (hI : Incl St hs) (k : ∀ b, W P n o sr ops Q St rest (put d (.map (some b)) xs) (mp b [] :: hs)) :
    W P n o sr ops Q St (⟨d, .makeMap t none, ty, pos, af, none⟩ :: rest) xs hs :=
  W.op rfl rfl hd fun a w ha hw => ⟨_, _, _, rfl, hw.mp_new, hI.there, k _⟩
theorem run_check {P : Program} {k : TypeId} (hk : P.underlying k = some (.int .i64)) (b : Bool) (m : Nat) (x : Int) (w : World) : (Instr.checkKey b (m + 1) k (.int .i64 x)).run P w = .ok () w := by
  simp [Instr.checkKey, run_underlying hk]
theorem W.mput {t kt et : TypeId} {m x y : Operand} {b : Nat} {l : List (Int × Int)} {k v : Int} {r : List HProp} [h : MapTy P t kt et] (hm : ev xs m = some (.map (some b))) (hx : ev xs x = some (.int .i64 k)) (hy : ev xs y = some (.int .i64 v))
    (hf : Find hs (mp b l) r) (hk : Miss l k) (hI : Keep (freeSt sr ops ⟨none, .mapUpdate t m x y, ty, pos, af, none⟩) St (mp b (l ++ [(k, v)]) :: r))
    (kk : W P n o sr ops Q St rest xs (mp b (l ++ [(k, v)]) :: r)) :
    W P n o sr ops Q St (⟨none, .mapUpdate t m x y, ty, pos, af, none⟩ :: rest) xs hs :=
  W.op_skip rfl rfl rfl fun a w ha hw => by
    have hw' := hw.lift hf.lift
    have hb := hw'.mp_at
    refine ⟨_, _, ?_, hw'.mp_set (l ++ [(k, v)]), hI, kk⟩
    show ((Instr.mapUpdate t (a.eval m) (a.eval x) (a.eval y)) >>= fun _ => pure Next.skip).run P w = _
    rw [ha.ev hm, ha.ev hx, ha.ev hy, Sem.run_bind]
    have h1 : (Instr.findKey kt (.int .i64 k) (ens l 0)).run P w = .ok none w := Go.MapKept.run_findKey h.key (miss_now 0 0 hk)
    simp [Instr.mapUpdate, Sem.run_bind, run_underlying h.ty, Go.MapKept.run_getObj_map hb, run_check h.key, h1, Go.MapKept.run_setObj_map _ hb]
    rw [show ens l 0 ++ [⟨.int .i64 k, .int .i64 v, l.length⟩] = ens (l ++ [(k, v)]) 0 from by simp [ens_app, ens]]
theorem W.mnone {t kt et : TypeId} {m x : Operand} {b : Nat} {l : List (Int × Int)} {k : Int} {r : List HProp} [h : MapTy P t kt et] (hm : ev xs m = some (.map (some b))) (hx : ev xs x = some (.int .i64 k)) (hd : fits n d = true)
    (hf : Find hs (mp b l) r) (hk : Miss l k) (hI : Incl St (mp b l :: r))
    (kk : W P n o sr ops Q St rest (put d (.int .i64 0) xs) (mp b l :: r)) :
    W P n o sr ops Q St (⟨d, .lookup t m x false, ty, pos, af, none⟩ :: rest) xs hs :=
  W.op rfl rfl hd fun a w ha hw => by
    have hw' := hw.lift hf.lift
    have hb := hw'.mp_at
    refine ⟨_, w, _, ?_, hw', hI, kk⟩
    show ((Instr.lookup t (a.eval m) (a.eval x) false) >>= fun v => pure (Next.value v)).run P w = _
    rw [ha.ev hm, ha.ev hx, Sem.run_bind]
    have h1 : (Instr.findKey kt (.int .i64 k) (ens l 0)).run P w = .ok none w := Go.MapKept.run_findKey h.key (miss_now 0 0 hk)
    simp [Instr.lookup, Sem.run_bind, run_underlying h.ty, Go.MapKept.run_getObj_map hb, run_check h.key, h1, h.zero]
theorem W.mlook {t kt et : TypeId} {m x : Operand} {b : Nat} {l : List (Int × Int)} {k v : Int} {r : List HProp} [h : MapTy P t kt et] (hm : ev xs m = some (.map (some b))) (hx : ev xs x = some (.int .i64 k)) (hd : fits n d = true)
    (hf : Find hs (mp b (l ++ [(k, v)])) r) (hk : Miss l k) (hI : Incl St (mp b (l ++ [(k, v)]) :: r))
    (kk : W P n o sr ops Q St rest (put d (.int .i64 v) xs) (mp b (l ++ [(k, v)]) :: r)) :
    W P n o sr ops Q St (⟨d, .lookup t m x false, ty, pos, af, none⟩ :: rest) xs hs :=
  W.op rfl rfl hd fun a w ha hw => by
    have hw' := hw.lift hf.lift
    have hb := hw'.mp_at
    refine ⟨_, w, _, ?_, hw', hI, kk⟩
    show ((Instr.lookup t (a.eval m) (a.eval x) false) >>= fun v => pure (Next.value v)).run P w = _
    rw [ha.ev hm, ha.ev hx, Sem.run_bind]
    have h1 : (Instr.findKey kt (.int .i64 k) (ens (l ++ [(k, v)]) 0)).run P w = .ok (some (0 + l.length, .int .i64 v)) w := Go.MapKept.run_findKey h.key (last_now 0 0 hk)
    simp [Instr.lookup, Sem.run_bind, run_underlying h.ty, Go.MapKept.run_getObj_map hb, run_check h.key, h1]
end
end Go.SL
namespace Go.Proofs.YtflmbhkjhfmeoaaGreat
open Go
def blank (c : UInt8) : Bool := c == 32 || c == 9
def wgo : List UInt8 → List UInt8 → List (List UInt8)
  | [], cur => if cur = [] then [] else [cur]
  | c :: r, cur => if blank c then (if cur = [] then wgo r [] else cur :: wgo r []) else wgo r (cur ++ [c])
def wordsM (s : List UInt8) : List (List UInt8) := wgo s []
def bl (r : Nat) : Bool := r == 32 || r == 9
theorem blank_bl (c : UInt8) : blank c = bl c.toNat := by
  simp only [blank, bl]
  rw [show (c == 32) = (c.toNat == 32) from by rw [Bool.eq_iff_iff]; simp [← UInt8.toNat_inj], show (c == 9) = (c.toNat == 9) from by rw [Bool.eq_iff_iff]; simp [← UInt8.toNat_inj]]
def cut (s : List UInt8) (x : Nat × Nat) : List UInt8 := (s.drop x.1).take (x.2 - x.1)
def begunAt (s : List UInt8) (pos : Nat) : Option Nat → List UInt8
  | some a => cut s (a, pos)
  | none => []
theorem cut_more (s : List UInt8) {a pos q : Nat} (h1 : a ≤ pos) (h2 : pos ≤ q) : cut s (a, q) = cut s (a, pos) ++ cut s (pos, q) := by
  simp only [cut]
  rw [show q - a = (pos - a) + (q - pos) from by omega, List.take_add, List.drop_drop, show a + (pos - a) = pos from by omega]
def digit (c : UInt8) : Bool := decide (48 ≤ c.toNat) && decide (c.toNat ≤ 57)
def val (s : List UInt8) : Nat := s.foldl (fun n c => 10 * n + (c.toNat - 48)) 0
def numShape (s : List UInt8) : Bool := !(s.isEmpty || decide (13 < s.length) || (s[0]? == some 48 && decide (1 < s.length)))
def numM (s : List UInt8) : Int × Bool := if numShape s && s.all digit && decide (val s ≤ 1099511627776) then ((val s : Nat), true) else (0, false)
theorem val_snoc (s : List UInt8) (c : UInt8) : val (s ++ [c]) = 10 * val s + (c.toNat - 48) := by simp [val]
theorem val_from : ∀ (s : List UInt8) (a : Nat), s.all digit = true → s.foldl (fun n c => 10 * n + (c.toNat - 48)) a < (a + 1) * 10 ^ s.length
  | [], a, _ => by simp
  | c :: r, a, h => by
    rw [List.all_cons, Bool.and_eq_true] at h
    have h2 : c.toNat ≤ 57 := by have := h.1; simp [digit] at this; exact this.2
    have h1 := val_from r (10 * a + (c.toNat - 48)) h.2
    rw [List.foldl_cons, List.length_cons, Nat.pow_succ]
    refine Nat.lt_of_lt_of_le h1 ?_
    rw [show (a + 1) * (10 ^ r.length * 10) = ((a + 1) * 10) * 10 ^ r.length from by rw [Nat.mul_comm (10 ^ r.length), Nat.mul_assoc]]
    exact Nat.mul_le_mul_right _ (by omega)
theorem val_le (s : List UInt8) (h : s.all digit = true) : val s < 10 ^ s.length := by have := val_from s 0 h; simpa [val] using this
theorem decDigits_step {u : Nat} (h : ¬ u < 10) : Lib.decDigits u = Lib.decDigits (u / 10) ++ [UInt8.ofNat (48 + u % 10)] := by rw [Lib.decDigits, dif_neg h]
theorem decDigits_one {u : Nat} (h : u < 10) : Lib.decDigits u = [UInt8.ofNat (48 + u)] := by rw [Lib.decDigits, dif_pos h]
theorem decDigits_len : ∀ (k u : Nat), 1 ≤ k → u < 10 ^ k → (Lib.decDigits u).length ≤ k := by
  intro k
  induction k with
  | zero => intro u h; omega
  | succ k ih =>
    intro u _ hu
    by_cases h : u < 10
    · rw [decDigits_one h]; simp
    · rw [decDigits_step h, List.length_append, List.length_singleton]
      have hk : 1 ≤ k := by
        rcases Nat.eq_zero_or_pos k with h0 | h0
        · subst h0; simp at hu; omega
        · exact h0
      have := ih (u / 10) hk (by rw [Nat.pow_succ] at hu; omega)
      omega
def lowC (c : UInt8) : UInt8 := if 65 ≤ c.toNat ∧ c.toNat ≤ 90 then c + 32 else c
def lowerM (s : List UInt8) : List UInt8 := s.map lowC
def letter (c : UInt8) : Bool := decide (97 ≤ c.toNat) && decide (c.toNat ≤ 122)
def wordB (s : List UInt8) : Bool := s.all letter && decide (1 ≤ s.length) && decide (s.length ≤ 24)
def mix {α : Type} (a b : List α) (k : Nat) : List α := a.take k ++ b.drop k
theorem mix_len {α : Type} {a b : List α} (h : a.length = b.length) (k : Nat) : (mix a b k).length = b.length := by simp [mix]; omega
theorem mix_get {α : Type} {a b : List α} (h : a.length = b.length) {k : Nat} (hk : k < b.length) : (mix a b k)[k]? = b[k]? := by
  rw [mix, List.getElem?_append_right (by simp; omega)]; simp [show min k a.length = k from by omega]
theorem mix_zero {α : Type} (a b : List α) : mix a b 0 = b := by simp [mix]
theorem mix_all {α : Type} {a b : List α} (h : a.length = b.length) {k : Nat} (hk : b.length ≤ k) : mix a b k = a := by
  rw [mix, List.take_of_length_le (by omega), List.drop_eq_nil_of_le hk, List.append_nil]
theorem mix_set {α : Type} {a b : List α} (h : a.length = b.length) {k : Nat} {x : α} (hx : a[k]? = some x) : (mix a b k).set k x = mix a b (k + 1) := by
  have hk := (List.getElem?_eq_some_iff.1 hx).1
  have hd : b.drop k = b[k]'(by omega) :: b.drop (k + 1) := List.drop_eq_getElem_cons _
  rw [mix, mix, List.set_append_right _ _ (by simp; omega), List.take_add_one, hx, hd]
  simp [show min k a.length = k from by omega]
  rw [hd]; rfl
theorem mix_same {α : Type} {a b : List α} (h : a.length = b.length) {k : Nat} {x : α} (hx : a[k]? = some x) (hy : b[k]? = some x) : mix a b k = mix a b (k + 1) := by
  have hk := (List.getElem?_eq_some_iff.1 hy)
  rw [mix, mix, List.take_add_one, hx, List.drop_eq_getElem_cons hk.1, hk.2]; simp
theorem lower_get (s : List UInt8) (k : Nat) (c : UInt8) (h : s[k]? = some c) : (lowerM s)[k]? = some (lowC c) := by rw [lowerM, List.getElem?_map, h]; rfl
theorem lower_len (s : List UInt8) : (lowerM s).length = s.length := by simp [lowerM]
theorem lowC_big {c : UInt8} (h1 : 65 ≤ c.toNat) (h2 : c.toNat ≤ 90) {z : Int} (hz : z = c.toNat + 32) : UInt8.ofNat z.toNat = lowC c := by
  rw [lowC, if_pos ⟨h1, h2⟩]
  apply UInt8.toNat_inj.1
  rw [UInt8.toNat_add, UInt8.toNat_ofNat', hz]
  show ((c.toNat : Int) + 32).toNat % 2 ^ 8 = (c.toNat + 32) % 2 ^ 8
  congr 1
theorem lowC_small {c : UInt8} (h : ¬ (65 ≤ c.toNat ∧ c.toNat ≤ 90)) : lowC c = c := if_neg h
theorem wgo_len : ∀ (r cur : List UInt8), (wgo r cur).length ≤ r.length + 1
  | [], cur => by simp only [wgo]; split <;> simp
  | c :: r, cur => by
    simp only [wgo]
    have h1 := wgo_len r []
    have h2 := wgo_len r (cur ++ [c])
    split
    · split <;> simp <;> omega
    · simp; omega
def dg (u : Nat) : List UInt8 := if u = 0 then [] else Lib.decDigits u
theorem dg_step {u : Nat} (h : u ≠ 0) : dg u = dg (u / 10) ++ [UInt8.ofNat (48 + u % 10)] := by
  rw [dg, if_neg h]
  by_cases h1 : u < 10
  · rw [decDigits_one h1, dg, if_pos (by omega), Nat.mod_eq_of_lt h1]; rfl
  · rw [decDigits_step h1, dg, if_neg (by omega)]
end Go.Proofs.YtflmbhkjhfmeoaaGreat
