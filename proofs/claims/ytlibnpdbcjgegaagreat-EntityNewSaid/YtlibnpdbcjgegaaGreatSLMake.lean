/-
  Rules of a small separation logic for walks: slices that are made, cells of slices that are written, quotients; rows of bytes that came in.
-/
import Derived.Test.YtlibnpdbcjgegaaGreatSLBase
import Derived.Laws.MakeOwn
namespace Go.SL
set_option linter.unusedVariables false
open Go.RowKit

theorem Enc.all_set {α : Type} (E : Enc α) (l : List α) (i j : Nat) (y y' : α) (v : Value) (hi : l[i]? = some y) (hj : j < E.sz) (hs : E.f y' = (E.f y).set j v) :
    (E.all l).set (i * E.sz + j) v = E.all (l.set i y') := by
  induction l generalizing i with
  | nil => simp at hi
  | cons x l ih =>
    cases i with
    | zero =>
      simp only [List.getElem?_cons_zero, Option.some.injEq] at hi
      subst hi
      simp only [Enc.all, List.flatMap_cons, List.set_cons_zero, Nat.zero_mul, Nat.zero_add]
      rw [List.set_append_left _ _ (by rw [E.len]; exact hj), hs]
    | succ i =>
      simp only [List.getElem?_cons_succ] at hi
      have := ih i hi
      simp only [Enc.all, List.flatMap_cons, List.set_cons_succ] at this ⊢
      rw [List.set_append_right _ _ (by rw [E.len, Nat.add_mul]; omega), E.len, ← this]
      rw [show (i + 1) * E.sz + j - E.sz = i * E.sz + j from by rw [Nat.add_mul]; omega]
theorem Enc.all_made {α : Type} (E : Enc α) (y : α) (z : Array Value) (hz : z.toList = E.f y) (c : Nat) : (madeCells z (c * E.sz)).toList = E.all (List.replicate c y) := by
  have hzs : z.size = E.sz := by rw [← Array.length_toList, hz, E.len]
  apply List.ext_getElem?
  intro i
  by_cases hi : i < c * E.sz
  · have hp := E.pos
    have hdm : i / E.sz * E.sz + i % E.sz = i := by rw [Nat.mul_comm]; exact Nat.div_add_mod i E.sz
    have hml : i % E.sz < E.sz := Nat.mod_lt _ hp
    have hq : i / E.sz < c := (Nat.div_lt_iff_lt_mul hp).2 hi
    have hzi : (E.f y)[i % E.sz]? = some (z[i % E.sz]'(by omega)) := by rw [← hz]; simp
    have h1 := E.all_get (List.replicate c y) (i / E.sz) (i % E.sz) y _ (by simp [hq]) hzi
    rw [hdm] at h1
    rw [h1]
    have hb : z[i % E.sz]! = z[i % E.sz]'(by omega) := by rw [getElem!_pos z (i % E.sz) (by omega)]
    simp [madeCells, hi, hzs, hb]
  · rw [List.getElem?_eq_none (by simp [madeCells]; omega), List.getElem?_eq_none (by rw [E.all_length]; simp; omega)]

section
variable {P : Program} {n : Nat} {o : Outer} {sr : List Tmp} {ops : Array Oper} {Q : Post} {St : List HProp} {rest : List Oper} {xs : Env} {hs : List HProp}
variable {d : Option Tmp} {ty : TypeId} {pos : String} {af : Array Edge}
variable {α : Type} {A : Option Addr} {c : Nat} {l : List α} {r : List HProp}
theorem W.make {t e by_ : Nat} {x y : Operand} {kl kc : IntKind} {m c : Int} {z : Value} (En : Enc α) (u : α) [ht : SliceTy P t e En.sz by_] [hz : Zero P e z] (hx : ev xs x = some (.int kl m)) (hy : ev xs y = some (.int kc c)) (hu : z.cells.toList = En.f u)
    (h0 : 0 ≤ m) (h1 : m ≤ c) (h2 : (by_ : Int) * c ≤ 281474976710656) (h3 : c ≤ 9223372036854775807) (hd : fits n d = true) (hI : Incl St hs)
    (k : ∀ b, W P n o sr ops Q St rest (put d (.slice (some ⟨b, 0, none⟩) (List.replicate m.toNat u).length c.toNat) xs) (sl En e (some ⟨b, 0, none⟩) c.toNat (List.replicate m.toNat u) :: hs)) :
    W P n o sr ops Q St (⟨d, .makeSlice t x y, ty, pos, af, none⟩ :: rest) xs hs :=
  W.op rfl rfl hd fun a w ha hw => by
    obtain ⟨i, z', hi, hsz, hby, hz', hzs⟩ := ht.info
    have hzz : z = z' := by
      have := hz.run w
      simp [zeroValue, typeInfo, hi, hz'] at this
      exact this.symm
    subst hzz
    refine ⟨.slice (some ⟨w.heap.size, 0, none⟩) m.toNat c.toNat, w.alloc (.cells (madeCells z.cells (c.toNat * i.size)) e), _, ?_, ?_, hI.there, by have := k w.heap.size; rwa [List.length_replicate] at this⟩
    · show ((Instr.makeSlice t (a.eval x) (a.eval y)) >>= fun v => pure (Next.value v)).run P w = _
      rw [ha.ev hx, ha.ev hy, Sem.run_bind, run_make w t e i z ht.und hi hz' kl kc m c h0 h1 (by rw [hby]; exact h2) h3]
      rfl
    · have hsat := hw.alloc e (madeCells z.cells (c.toNat * i.size)).toList
      rw [Array.toArray_toList, hsz, En.all_made u z.cells hu] at hsat
      have hsp : List.replicate c.toNat u = List.replicate m.toNat u ++ List.replicate (c.toNat - m.toNat) u := by
        rw [List.replicate_append_replicate]; congr 1; omega
      rw [hsp, En.all_append] at hsat
      have : Sat o (w.alloc (.cells (madeCells z.cells (c.toNat * i.size)) e)) (blk w.heap.size e ([] ++ En.all (List.replicate m.toNat u) ++ En.all (List.replicate (c.toNat - m.toNat) u)) :: hs) := by
        rw [hsz]; simpa using hsat
      refine this.sl_close (pre := []) ?_ (by rw [maxLen_eq]; omega)
      rw [En.all_length, En.all_length, List.length_replicate, List.length_replicate, ← Nat.add_mul]
      congr 1; omega
/-- A cell of a slice of its own is written. -/
theorem W.store_sl {t e g off p : Nat} {x y : Operand} {v : Value} [h1 : One P t] (En : Enc α) (i j : Nat) (u u' : α) (hx : ev xs x = some (.pointer (some ⟨g, p, none⟩))) (hy : ev xs y = some v) (h0 : v.oneCell' = true)
    (hf : Find hs (sl En e (some ⟨g, off, none⟩) c l) r) (hp : p = off + (i * En.sz + j)) (hu : l[i]? = some u) (hj : j < En.sz) (hset : En.f u' = (En.f u).set j v)
    (hI : Keep (freeSt sr ops ⟨none, .store t x y, ty, pos, af, none⟩) St (sl En e (some ⟨g, off, none⟩) c (l.set i u') :: r)) (k : W P n o sr ops Q St rest xs (sl En e (some ⟨g, off, none⟩) c (l.set i u') :: r)) :
    W P n o sr ops Q St (⟨none, .store t x y, ty, pos, af, none⟩ :: rest) xs hs :=
  W.op_skip rfl rfl rfl fun a w ha hw => by
    have hw' := hw.lift hf.lift
    rcases hw'.sl_open with ⟨hn, _⟩ | ⟨g', pre, spare, hA, hl, hc, hsat⟩
    · cases hn
    simp only [Option.some.injEq, Addr.mk.injEq, and_true] at hA
    obtain ⟨rfl, rfl⟩ := hA
    have hi := (List.getElem?_eq_some_iff.1 hu).1
    have hib : i * En.sz + j < (En.all l).length := by
      rw [En.all_length]
      have : (i + 1) * En.sz ≤ l.length * En.sz := Nat.mul_le_mul_right _ hi
      rw [Nat.add_mul] at this; omega
    have hlt : p < (pre ++ En.all l ++ spare).length := by simp only [List.length_append]; omega
    have hcell := hsat.blk_cell (List.getElem?_eq_getElem hlt)
    have hst := hsat.store p v
    have hse : (pre ++ En.all l ++ spare).set p v = pre ++ En.all (l.set i u') ++ spare := by
      rw [hp, List.append_assoc, List.set_append_right _ _ (by omega), show pre.length + (i * En.sz + j) - pre.length = i * En.sz + j from by omega, List.set_append_left _ _ hib, En.all_set l i j u u' v hu hj hset, ← List.append_assoc]
    rw [hse] at hst
    refine ⟨w.setCell ⟨g, p, none⟩ v, _, ?_, hst.sl_close (by rw [En.all_length, List.length_set, ← En.all_length]; exact hl) hc, hI, k⟩
    show ((Instr.storeAt t (a.eval x) (a.eval y)) >>= fun _ => pure Next.skip).run P w = _
    have hcs : v.cells = #[v] := by cases v <;> first | rfl | cases h0
    rw [ha.ev hx, ha.ev hy, Sem.run_bind]
    simp [Instr.storeAt, Instr.sureAddr, storeVar, h1.size, hcs, storeCells, run_store, h0, hcell, hsat.blk_thawed hlt, Addr.add]
theorem W.rem {t t2 : TypeId} {x y : Operand} {kd : IntKind} {a b z : Int} (hx : ev xs x = some (.int kd a)) (hy : ev xs y = some (.int kd b)) (hb : b ≠ 0) (hz : z = a.tmod b) (hd : fits n d = true)
    (k : W P n o sr ops Q St rest (put d (.int kd z) xs) hs) : W P n o sr ops Q St (⟨d, .binOp .rem t x y t2, ty, pos, af, none⟩ :: rest) xs hs :=
  W.val rfl (by simp only [kind]; first | (intro h; cases h; done) | (repeat' split) <;> (intro h; cases h)) hd (fun ac w ha => by
    have hr := run_binOp_int (P := P) .rem t x y kd a b w (by rintro h; cases h) (by rintro h; cases h)
    show ((do eqGuard .rem t x y (ac.eval x) (ac.eval y); binOp .rem t (ac.eval x) (ac.eval y) : Sem Value) >>= fun v => pure (Next.value v)).run P w = _
    rw [ha.ev hx, ha.ev hy, Sem.run_bind, hr]
    simp [Op.intDiv, hb, hz]) k
theorem W.quo {t t2 : TypeId} {x y : Operand} {kd : IntKind} {a b z : Int} (hx : ev xs x = some (.int kd a)) (hy : ev xs y = some (.int kd b)) (hb : b ≠ 0) (hz : z = kd.wrap (a.tdiv b)) (hd : fits n d = true)
    (k : W P n o sr ops Q St rest (put d (.int kd z) xs) hs) : W P n o sr ops Q St (⟨d, .binOp .quo t x y t2, ty, pos, af, none⟩ :: rest) xs hs :=
  W.val rfl (by simp only [kind]; first | (intro h; cases h; done) | (repeat' split) <;> (intro h; cases h)) hd (fun ac w ha => by
    have hr := run_binOp_int (P := P) .quo t x y kd a b w (by rintro h; cases h) (by rintro h; cases h)
    show ((do eqGuard .quo t x y (ac.eval x) (ac.eval y); binOp .quo t (ac.eval x) (ac.eval y) : Sem Value) >>= fun v => pure (Next.value v)).run P w = _
    rw [ha.ev hx, ha.ev hy, Sem.run_bind, hr]
    simp [Op.intDiv, hb, hz]) k
/-- What a slice of its own holds is within its capacity. -/
theorem W.cap {e : Nat} {En : Enc α} (hf : Find hs (sl En e A c l) r) (k : l.length ≤ c → W P n o sr ops Q St rest xs hs) : W P n o sr ops Q St rest xs hs :=
  W.fact (φ := l.length ≤ c) (fun w hw => (hw.lift hf.lift).sl_cap.1) k
end
theorem u8_arg (z : Int) (hz : (Lit.int .u8 z).wf = true) : ((UInt8.ofNat z.toNat).toNat : Int) = z := by
  have hz2 : 0 ≤ z ∧ z < 256 := by
    simp [Lit.wf, IntKind.min, IntKind.max, IntKind.signed, IntKind.bits] at hz
    omega
  have : (UInt8.ofNat z.toNat).toNat = z.toNat := by simp; omega
  rw [this, Int.toNat_of_nonneg hz2.1]
theorem u8_ints : ∀ (zs : List Int), (∀ z ∈ zs, (Lit.int .u8 z).wf = true) → Enc.u8.all (zs.map fun z => UInt8.ofNat z.toNat) = (Enc.int .u8).all zs
  | [], _ => rfl
  | z :: zs, hw => by
    have hz := hw z List.mem_cons_self
    have hz2 : 0 ≤ z ∧ z < 256 := by
      simp [Lit.wf, IntKind.min, IntKind.max, IntKind.signed, IntKind.bits] at hz
      omega
    have ih := u8_ints zs (fun y hy => hw y (List.mem_cons_of_mem _ hy))
    simp only [Enc.all, List.map_cons, List.flatMap_cons] at ih ⊢
    rw [ih]
    congr 2
    have : (UInt8.ofNat z.toNat).toNat = z.toNat := by simp; omega
    rw [this, Int.toNat_of_nonneg hz2.1]
/-- Bytes that came in as numbers. -/
theorem Reads.u8 {R : HProp} {A : Option Addr} {zs : List Int} (h : Reads R (Enc.int .u8) A zs) (hw : ∀ z ∈ zs, (Lit.int .u8 z).wf = true) : Reads R Enc.u8 A (zs.map fun z => UInt8.ofNat z.toNat) := by
  intro f w hf hw'
  rcases h f w hf hw' with h0 | h1
  · subst h0; exact .inl rfl
  · rw [u8_ints zs hw]; exact .inr h1
end Go.SL
