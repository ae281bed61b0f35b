/-
  Maps of whole numbers to whole numbers, made by the call itself: what they hold, entries made, written, read.
-/
import Derived.Test.YtlibnpdbcjgegaaGreatSLEq
import Derived.MapKept
namespace Go.SL
set_option linter.unusedVariables false
def ens : List (Int × Int) → Nat → List MapEntry
  | [], _ => []
  | p :: r, i => ⟨.int .i64 p.1, .int .i64 p.2, i⟩ :: ens r (i + 1)
theorem ens_len : ∀ (l : List (Int × Int)) (i : Nat), (ens l i).length = l.length
  | [], _ => rfl
  | _ :: r, i => by simp [ens, ens_len r]
theorem ens_app : ∀ (l r : List (Int × Int)) (i : Nat), ens (l ++ r) i = ens l i ++ ens r (i + l.length)
  | [], r, i => by simp [ens]
  | p :: l, r, i => by simp only [List.cons_append, ens, List.length_cons]; rw [ens_app l r, show i + 1 + l.length = i + (l.length + 1) from by omega]
/-- The map at block b, its own to write: these keys with these numbers, in the order in which they came. -/
def mp (b : Nat) (l : List (Int × Int)) : HProp := fun f => f = one b (false, .map (ens l 0).toArray l.length)
section
variable {o : Outer} {w : World} {b : Nat} {l : List (Int × Int)} {r : List HProp}
theorem Sat.mp_at (h : Sat o w (mp b l :: r)) : w.heap[b]? = some (.map (ens l 0).toArray l.length) := by
  obtain ⟨f, rfl, hf⟩ := h.head
  exact hf b _ (one_self _ _)
theorem Sat.mp_new (h : Sat o w r) : Sat o (w.alloc (.map #[] 0)) (mp w.heap.size [] :: r) := by
  refine h.more h.1 ⟨_, rfl, fun b x hb => ?_, fun b x hb => ?_⟩ (fun b hb => RowKit.Below.heap_alloc w _ b hb)
  · obtain ⟨rfl, rfl⟩ := one_some hb; exact heap_alloc_new w _
  · obtain ⟨rfl, _⟩ := one_some hb; exact Nat.le_refl _
theorem Sat.mp_set (h : Sat o w (mp b l :: r)) (l' : List (Int × Int)) : Sat o { w with heap := w.heap.setIfInBounds b (.map (ens l' 0).toArray l'.length) } (mp b l' :: r) := by
  refine h.turn h.1 ?_
  rintro f rfl hf
  have hb := hf b _ (one_self _ _)
  have hlt := (Array.getElem?_eq_some_iff.1 hb).1
  refine ⟨_, rfl, fun k x hk => ?_, fun k x hk => ?_, fun k hk hne => ?_⟩
  · obtain ⟨rfl, rfl⟩ := one_some hk
    simp [hlt]
  · obtain ⟨rfl, _⟩ := one_some hk
    exact .inl ⟨_, one_self _ _⟩
  · have hkb : k ≠ b := fun e => by subst e; exact hne _ (one_self _ _)
    simp [Ne.symm hkb]
end
/-- k is none of the keys. -/
def Miss (l : List (Int × Int)) (k : Int) : Prop := ∀ p ∈ l, p.1 ≠ k
theorem miss_now : ∀ {l : List (Int × Int)} {k : Int} (i j : Nat), Miss l k → Instr.findNow (.int .i64) (.int .i64 k) (ens l i) j = some none
  | [], _, _, _, _ => rfl
  | p :: r, k, i, j, h => by
    have h1 : (k == p.1) = false := by have := h p List.mem_cons_self; simpa using Ne.symm this
    simp only [ens, Instr.findNow, Instr.sameNow, if_true, h1]
    exact miss_now _ _ fun q hq => h q (List.mem_cons_of_mem _ hq)
theorem last_now : ∀ {l : List (Int × Int)} {k v : Int} (i j : Nat), Miss l k → Instr.findNow (.int .i64) (.int .i64 k) (ens (l ++ [(k, v)]) i) j = some (some (j + l.length, .int .i64 v))
  | [], k, v, i, j, _ => by simp [ens, Instr.findNow, Instr.sameNow]
  | p :: r, k, v, i, j, h => by
    have h1 : (k == p.1) = false := by have := h p List.mem_cons_self; simpa using Ne.symm this
    simp only [List.cons_append, ens, Instr.findNow, Instr.sameNow, if_true, h1]
    rw [last_now _ _ fun q hq => h q (List.mem_cons_of_mem _ hq)]
    simp; omega
/-- A map's type, of whole numbers. -/
class MapTy (P : Program) (t : TypeId) (k e : outParam TypeId) : Prop where
  ty : P.underlying t = some (.map k e)
  key : P.underlying k = some (.int .i64)
  zero : ∀ w, (zeroValue e).run P w = .ok (.int .i64 0) w
section
variable {P : Program} {n : Nat} {o : Outer} {sr : List Tmp} {ops : Array Oper} {Q : Post} {St : List HProp} {rest : List Oper} {xs : Env} {hs : List HProp}
variable {d : Option Tmp} {ty : TypeId} {pos : String} {af : Array Edge}
theorem W.mkmap {t : TypeId} (hd : fits n d = true) (hI : Incl St hs) (k : ∀ b, W P n o sr ops Q St rest (put d (.map (some b)) xs) (mp b [] :: hs)) :
    W P n o sr ops Q St (⟨d, .makeMap t none, ty, pos, af, none⟩ :: rest) xs hs :=
  W.op rfl rfl hd fun a w ha hw => ⟨_, _, _, rfl, hw.mp_new, hI.there, k _⟩
theorem run_check {P : Program} {k : TypeId} (hk : P.underlying k = some (.int .i64)) (b : Bool) (m : Nat) (x : Int) (w : World) : (Instr.checkKey b (m + 1) k (.int .i64 x)).run P w = .ok () w := by
  simp [Instr.checkKey, run_underlying hk]
theorem W.mput {t kt et : TypeId} {m x y : Operand} {b : Nat} {l : List (Int × Int)} {k v : Int} {r : List HProp} [h : MapTy P t kt et] (hm : ev xs m = some (.map (some b))) (hx : ev xs x = some (.int .i64 k)) (hy : ev xs y = some (.int .i64 v))
    (hf : Find hs (mp b l) r) (hk : Miss l k) (hI : Keep (freeSt sr ops ⟨none, .mapUpdate t m x y, ty, pos, af, none⟩) St (mp b (l ++ [(k, v)]) :: r))
    (kk : W P n o sr ops Q St rest xs (mp b (l ++ [(k, v)]) :: r)) :
    W P n o sr ops Q St (⟨none, .mapUpdate t m x y, ty, pos, af, none⟩ :: rest) xs hs :=
  W.op_skip rfl rfl rfl fun a w ha hw => by
    have hw' := hw.lift hf.lift
    have hb := hw'.mp_at
    refine ⟨_, _, ?_, hw'.mp_set (l ++ [(k, v)]), hI, kk⟩
    show ((Instr.mapUpdate t (a.eval m) (a.eval x) (a.eval y)) >>= fun _ => pure Next.skip).run P w = _
    rw [ha.ev hm, ha.ev hx, ha.ev hy, Sem.run_bind]
    have h1 : (Instr.findKey kt (.int .i64 k) (ens l 0)).run P w = .ok none w := Go.MapKept.run_findKey h.key (miss_now 0 0 hk)
    simp [Instr.mapUpdate, Sem.run_bind, run_underlying h.ty, Go.MapKept.run_getObj_map hb, run_check h.key, h1, Go.MapKept.run_setObj_map _ hb]
    rw [show ens l 0 ++ [⟨.int .i64 k, .int .i64 v, l.length⟩] = ens (l ++ [(k, v)]) 0 from by simp [ens_app, ens]]
theorem W.mnone {t kt et : TypeId} {m x : Operand} {b : Nat} {l : List (Int × Int)} {k : Int} {r : List HProp} [h : MapTy P t kt et] (hm : ev xs m = some (.map (some b))) (hx : ev xs x = some (.int .i64 k)) (hd : fits n d = true)
    (hf : Find hs (mp b l) r) (hk : Miss l k) (hI : Incl St (mp b l :: r))
    (kk : W P n o sr ops Q St rest (put d (.int .i64 0) xs) (mp b l :: r)) :
    W P n o sr ops Q St (⟨d, .lookup t m x false, ty, pos, af, none⟩ :: rest) xs hs :=
  W.op rfl rfl hd fun a w ha hw => by
    have hw' := hw.lift hf.lift
    have hb := hw'.mp_at
    refine ⟨_, w, _, ?_, hw', hI, kk⟩
    show ((Instr.lookup t (a.eval m) (a.eval x) false) >>= fun v => pure (Next.value v)).run P w = _
    rw [ha.ev hm, ha.ev hx, Sem.run_bind]
    have h1 : (Instr.findKey kt (.int .i64 k) (ens l 0)).run P w = .ok none w := Go.MapKept.run_findKey h.key (miss_now 0 0 hk)
    simp [Instr.lookup, Sem.run_bind, run_underlying h.ty, Go.MapKept.run_getObj_map hb, run_check h.key, h1, h.zero]
theorem W.mlook {t kt et : TypeId} {m x : Operand} {b : Nat} {l : List (Int × Int)} {k v : Int} {r : List HProp} [h : MapTy P t kt et] (hm : ev xs m = some (.map (some b))) (hx : ev xs x = some (.int .i64 k)) (hd : fits n d = true)
    (hf : Find hs (mp b (l ++ [(k, v)])) r) (hk : Miss l k) (hI : Incl St (mp b (l ++ [(k, v)]) :: r))
    (kk : W P n o sr ops Q St rest (put d (.int .i64 v) xs) (mp b (l ++ [(k, v)]) :: r)) :
    W P n o sr ops Q St (⟨d, .lookup t m x false, ty, pos, af, none⟩ :: rest) xs hs :=
  W.op rfl rfl hd fun a w ha hw => by
    have hw' := hw.lift hf.lift
    have hb := hw'.mp_at
    refine ⟨_, w, _, ?_, hw', hI, kk⟩
    show ((Instr.lookup t (a.eval m) (a.eval x) false) >>= fun v => pure (Next.value v)).run P w = _
    rw [ha.ev hm, ha.ev hx, Sem.run_bind]
    have h1 : (Instr.findKey kt (.int .i64 k) (ens (l ++ [(k, v)]) 0)).run P w = .ok (some (0 + l.length, .int .i64 v)) w := Go.MapKept.run_findKey h.key (last_now 0 0 hk)
    simp [Instr.lookup, Sem.run_bind, run_underlying h.ty, Go.MapKept.run_getObj_map hb, run_check h.key, h1]
end
end Go.SL
