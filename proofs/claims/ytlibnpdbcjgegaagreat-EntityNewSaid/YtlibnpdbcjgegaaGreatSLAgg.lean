/-
  Rules of a small separation logic for walks: structs as values, in variables and in slices; slices held against nil.
-/
import Derived.Test.YtlibnpdbcjgegaaGreatSLFrz
import Derived.Lib.LazyBuf
namespace Go.SL
set_option linter.unusedVariables false
section
variable {P : Program} {n : Nat} {o : Outer} {sr : List Tmp} {ops : Array Oper} {Q : Post} {St : List HProp} {rest : List Oper} {xs : Env} {hs : List HProp}
variable {d : Option Tmp} {ty : TypeId} {pos : String} {af : Array Edge} {α : Type}
/-- A struct read by whatever assertion holds it. -/
theorem W.agg_of {t b i m : Nat} {x : Operand} {vs : List Value} [h1 : AggTy P t m] (hx : ev xs x = some (.pointer (some ⟨b, i, none⟩))) (hm : vs.length = m) (hc : ∀ w, Sat o w hs → ∀ (j : Nat) (v : Value), vs[j]? = some v → w.cell? ⟨b, i + j, none⟩ = some v)
    (hns : stbD sr d = false) (hd : fits n d = true) (k : W P n o sr ops Q St rest (put d (.agg vs.toArray) xs) hs) : W P n o sr ops Q St (⟨d, .load t x, ty, pos, af, none⟩ :: rest) xs hs :=
  W.read rfl (by simp [kind]) hns hd (fun a w ha hw => by
    show ((Instr.loadAt t (a.eval x)) >>= fun v => pure (Next.value v)).run P w = _
    have := run_loadCells (P := P) (w := w) b i vs (hc w hw)
    rw [hm] at this
    rw [ha.ev hx, Sem.run_bind]
    simp [Instr.loadAt, Instr.sureAddr, loadVar, h1.agg, h1.size, this]) k
theorem W.agg {t b i T m : Nat} {x : Operand} {vs cs : List Value} {r : List HProp} [h1 : AggTy P t m] (hx : ev xs x = some (.pointer (some ⟨b, i, none⟩))) (hf : Find hs (blk b T cs) r) (hv : (cs.drop i).take m = vs) (hm : vs.length = m)
    (hns : stbD sr d = false) (hd : fits n d = true) (k : W P n o sr ops Q St rest (put d (.agg vs.toArray) xs) hs) : W P n o sr ops Q St (⟨d, .load t x, ty, pos, af, none⟩ :: rest) xs hs :=
  W.agg_of hx hm (fun w hw j v hj => (hw.lift hf.lift).blk_cell (by
    subst hv
    rw [List.getElem?_take] at hj
    split at hj
    · rwa [List.getElem?_drop] at hj
    · cases hj)) hns hd k
theorem W.agg_reads {t g off p m : Nat} {x : Operand} {R : HProp} {r : List HProp} (En : Enc α) (l : List α) (i : Nat) (y : α) [h1 : AggTy P t m] (hx : ev xs x = some (.pointer (some ⟨g, p, none⟩)))
    (hf : Find hs R r) (hR : Reads R En (some ⟨g, off, none⟩) l) (hp : p = off + i * En.sz) (hy : l[i]? = some y) (hm : En.sz = m)
    (hns : stbD sr d = false) (hd : fits n d = true) (k : W P n o sr ops Q St rest (put d (.agg (En.f y).toArray) xs) hs) : W P n o sr ops Q St (⟨d, .load t x, ty, pos, af, none⟩ :: rest) xs hs := by
  refine W.agg_of hx (by rw [En.len, hm]) (fun w hw j v hj => ?_) hns hd k
  obtain ⟨f, hf', hw'⟩ := (hw.lift hf.lift).head
  rcases hR f w hf' hw' with h0 | ⟨g', off', hA, hc⟩
  · subst h0; cases hy
  · cases hA
    rw [hp, Nat.add_assoc]
    exact hc _ _ (En.all_get l i j y v hy hj)
/-- A struct written into a variable, or into a part of one. -/
theorem W.store_agg {t b i T m : Nat} {x y : Operand} {vs cs cs' : List Value} {r : List HProp} [h1 : AggTy P t m] (hx : ev xs x = some (.pointer (some ⟨b, i, none⟩))) (hy : ev xs y = some (.agg vs.toArray)) (hm : vs.length = m) (h0 : vs.all (·.oneCell') = true)
    (hf : Find hs (blk b T cs) r) (hi : Nat.ble (i + vs.length) cs.length = true) (hset : setAll cs i vs = cs') (hI : Keep (freeSt sr ops ⟨none, .store t x y, ty, pos, af, none⟩) St (blk b T cs' :: r)) (k : W P n o sr ops Q St rest xs (blk b T cs' :: r)) :
    W P n o sr ops Q St (⟨none, .store t x y, ty, pos, af, none⟩ :: rest) xs hs :=
  W.op_skip rfl rfl rfl fun a w ha hw => by
    have hw' := hw.lift hf.lift
    obtain ⟨w', hrun, hs'⟩ := Sat.storeCells (P := P) (off := i) vs 0 cs w hw' (by have := Nat.le_of_ble_eq_true hi; omega) (fun v hv => List.all_eq_true.1 h0 v hv)
    rw [Nat.add_zero, hset] at hs'
    refine ⟨w', _, ?_, hs', hI, k⟩
    show ((Instr.storeAt t (a.eval x) (a.eval y)) >>= fun _ => pure Next.skip).run P w = _
    rw [ha.ev hx, ha.ev hy, Sem.run_bind]
    simp [Instr.storeAt, Instr.sureAddr, storeVar, h1.size, Value.cells, hm, hrun]
theorem setAll_set (pre old post : List Value) (vs : List Value) (h : old.length = vs.length) : setAll (pre ++ old ++ post) pre.length vs = pre ++ vs ++ post := setAll_mid pre old post vs h
theorem Enc.all_put (E : Enc α) (l : List α) (i : Nat) (y : α) (hi : i < l.length) : ∃ p q old, E.all l = p ++ old ++ q ∧ p.length = i * E.sz ∧ old.length = E.sz ∧ E.all (l.set i y) = p ++ E.f y ++ q := by
  refine ⟨E.all (l.take i), E.all (l.drop (i + 1)), E.f l[i], ?_, ?_, E.len _, ?_⟩
  · have : l = l.take i ++ [l[i]] ++ l.drop (i + 1) := by simp
    conv => lhs; rw [this, E.all_append, E.all_append]
    simp [Enc.all]
  · rw [E.all_length, List.length_take]; congr 1; omega
  · rw [List.set_eq_take_append_cons_drop, if_pos hi, E.all_append]
    simp [Enc.all]
/-- A struct written into a slice of its own. -/
theorem W.store_agg_sl {t e g off p m : Nat} {A : Option Addr} {c : Nat} {l : List α} {r : List HProp} {x y : Operand} {vs : List Value} [h1 : AggTy P t m] (En : Enc α) (i : Nat) (u : α) (hx : ev xs x = some (.pointer (some ⟨g, p, none⟩))) (hy : ev xs y = some (.agg vs.toArray))
    (hf : Find hs (sl En e (some ⟨g, off, none⟩) c l) r) (hp : p = off + i * En.sz) (hi : i < l.length) (hu : En.f u = vs) (hm : En.sz = m)
    (hI : Keep (freeSt sr ops ⟨none, .store t x y, ty, pos, af, none⟩) St (sl En e (some ⟨g, off, none⟩) c (l.set i u) :: r)) (k : W P n o sr ops Q St rest xs (sl En e (some ⟨g, off, none⟩) c (l.set i u) :: r)) :
    W P n o sr ops Q St (⟨none, .store t x y, ty, pos, af, none⟩ :: rest) xs hs :=
  W.op_skip rfl rfl rfl fun a w ha hw => by
    have hw' := hw.lift hf.lift
    rcases hw'.sl_open with ⟨hn, _⟩ | ⟨g', pre, spare, hA, hl, hc, hsat⟩
    · cases hn
    simp only [Option.some.injEq, Addr.mk.injEq, and_true] at hA
    obtain ⟨rfl, rfl⟩ := hA
    obtain ⟨pp, qq, old, ha1, ha2, ha3, ha4⟩ := En.all_put l i u hi
    have hlen : vs.length = En.sz := by rw [← hu, En.len]
    have hsplit : pre ++ En.all l ++ spare = (pre ++ pp) ++ old ++ (qq ++ spare) := by rw [ha1]; simp
    rw [hsplit] at hsat
    obtain ⟨w', hrun, hs'⟩ := Sat.storeCells (P := P) (off := p) vs 0 _ w hsat (by simp only [List.length_append]; omega) (fun v hv => En.one u v (by rw [hu]; exact hv))
    rw [Nat.add_zero, show p = (pre ++ pp).length from by rw [List.length_append, ha2, hp], setAll_set _ _ _ _ (by rw [ha3, hlen])] at hs'
    have hback : (pre ++ pp) ++ vs ++ (qq ++ spare) = pre ++ En.all (l.set i u) ++ spare := by rw [ha4, hu]; simp
    rw [hback] at hs'
    refine ⟨w', _, ?_, hs'.sl_close (by rw [En.all_length, List.length_set, ← En.all_length]; exact hl) hc, hI, k⟩
    show ((Instr.storeAt t (a.eval x) (a.eval y)) >>= fun _ => pure Next.skip).run P w = _
    rw [ha.ev hx, ha.ev hy, Sem.run_bind]
    simp [Instr.storeAt, Instr.sureAddr, storeVar, h1.size, Value.cells, hlen, hm, hrun]
/-! one or two assertions turned into one -/
theorem W.one {A C : HProp} {r : List HProp} (hA : Find hs A r) (t : ∀ w, Sat o w (A :: r) → Sat o w (C :: r)) (k : W P n o sr ops Q St rest xs (C :: r)) : W P n o sr ops Q St rest xs hs :=
  W.turn (fun w hw => t w (hw.lift hA.lift)) k
theorem W.two {A B C : HProp} {r r2 : List HProp} (hA : Find hs A r) (hB : Find r B r2) (t : ∀ w, Sat o w (A :: B :: r2) → Sat o w (C :: r2)) (k : W P n o sr ops Q St rest xs (C :: r2)) : W P n o sr ops Q St rest xs hs :=
  W.turn (fun w hw => t w ((hw.lift hA.lift).lift (hB.lift.cons _))) k
theorem W.dup {A : HProp} {r : List HProp} (hA : Find hs A r) (hf : ∀ f, A f → Fro f) (k : W P n o sr ops Q St rest xs (A :: A :: r)) : W P n o sr ops Q St rest xs hs :=
  W.turn (fun w hw => (hw.lift hA.lift).dup hf) k
theorem W.frz_get {E : Enc α} {l : List Hdr} {ys : List (List α)} {h : Hdr} {x : List α} {i : Nat} {r : List HProp} (hA : Find hs (frz E l ys) r) (hh : l[i]? = some h) (hx : ys[i]? = some x)
    (k : h.2.1 = x.length → x.length ≤ h.2.2 → W P n o sr ops Q St rest xs (frz E [h] [x] :: frz E l ys :: r)) : W P n o sr ops Q St rest xs hs := by
  refine W.turn (fun w hw => SL.frz_get hh hx (hw.lift hA.lift)) ?_
  refine W.fact (fun w hw => frz_hdr hw) fun hq => ?_
  exact k hq.1 hq.2
/-! slices held against nil -/
theorem W.slice_nil {t t2 e sz by_ : Nat} {x y : Operand} {A : Option Addr} {m c : Nat} [ht : SliceTy P t e sz by_] (hx : ev xs x = some (.slice A m c)) (hy : ev xs y = some (.slice none 0 0)) (hd : fits n d = true)
    (k : W P n o sr ops Q St rest (put d (.bool A.isNone) xs) hs) : W P n o sr ops Q St (⟨d, .binOp .eql t x y t2, ty, pos, af, none⟩ :: rest) xs hs :=
  W.val rfl (by simp only [kind]; split <;> (intro h; cases h)) hd (fun ac w ha => by
    have h1 := Go.run_eql_slice_nil (P := P) w t e A m c ht.und
    show ((do eqGuard .eql t x y (ac.eval x) (ac.eval y); binOp .eql t (ac.eval x) (ac.eval y) : Sem Value) >>= fun v => pure (Next.value v)).run P w = _
    rw [ha.ev hx, ha.ev hy, Sem.run_bind, Sem.run_bind, show eqGuard .eql t x y (.slice A m c) (.slice none 0 0) = pure () from rfl, Sem.run_pure, Result.andThen_ok, h1]
    rfl) k
theorem W.slice_not {t t2 e sz by_ : Nat} {x y : Operand} {A : Option Addr} {m c : Nat} [ht : SliceTy P t e sz by_] (hx : ev xs x = some (.slice A m c)) (hy : ev xs y = some (.slice none 0 0)) (hd : fits n d = true)
    (k : W P n o sr ops Q St rest (put d (.bool (!A.isNone)) xs) hs) : W P n o sr ops Q St (⟨d, .binOp .neq t x y t2, ty, pos, af, none⟩ :: rest) xs hs :=
  W.val rfl (by simp only [kind]; split <;> (intro h; cases h)) hd (fun ac w ha => by
    have h2 := Go.run_neq_slice_nil (P := P) w t e A m c ht.und
    show ((do eqGuard .neq t x y (ac.eval x) (ac.eval y); binOp .neq t (ac.eval x) (ac.eval y) : Sem Value) >>= fun v => pure (Next.value v)).run P w = _
    rw [ha.ev hx, ha.ev hy, Sem.run_bind, Sem.run_bind, show eqGuard .neq t x y (.slice A m c) (.slice none 0 0) = pure () from rfl, Sem.run_pure, Result.andThen_ok, h2]
    rfl) k
class BoolTy (P : Program) (t : TypeId) : Prop where
  und : P.underlying t = some .bool
theorem run_equal_bool {t : TypeId} [ht : BoolTy P t] (a b : Bool) (w : World) : (Op.equal t (.bool a) (.bool b)).run P w = .ok (a == b) w := by
  have h : ∀ dd : Nat, (Op.equalIn (dd + 1) t (.bool a) (.bool b)).run P w = .ok (a == b) w := fun dd => by simp [Op.equalIn, run_underlying ht.und]
  simp [Op.equal, Op.maxDepth, h 9999]
theorem W.bool_eq {t t2 : TypeId} {x y : Operand} {a b : Bool} [ht : BoolTy P t] (hx : ev xs x = some (.bool a)) (hy : ev xs y = some (.bool b)) (hd : fits n d = true)
    (k : W P n o sr ops Q St rest (put d (.bool (a == b)) xs) hs) : W P n o sr ops Q St (⟨d, .binOp .eql t x y t2, ty, pos, af, none⟩ :: rest) xs hs :=
  W.val rfl (by simp only [kind]; split <;> (intro h; cases h)) hd (fun ac w ha => by
    show ((do eqGuard .eql t x y (ac.eval x) (ac.eval y); binOp .eql t (ac.eval x) (ac.eval y) : Sem Value) >>= fun v => pure (Next.value v)).run P w = _
    rw [ha.ev hx, ha.ev hy, Sem.run_bind, Sem.run_bind, show eqGuard .eql t x y (.bool a) (.bool b) = pure () from rfl, Sem.run_pure, Result.andThen_ok]
    simp [binOp, run_equal_bool]) k
theorem W.bool_ne {t t2 : TypeId} {x y : Operand} {a b : Bool} [ht : BoolTy P t] (hx : ev xs x = some (.bool a)) (hy : ev xs y = some (.bool b)) (hd : fits n d = true)
    (k : W P n o sr ops Q St rest (put d (.bool (a != b)) xs) hs) : W P n o sr ops Q St (⟨d, .binOp .neq t x y t2, ty, pos, af, none⟩ :: rest) xs hs :=
  W.val rfl (by simp only [kind]; split <;> (intro h; cases h)) hd (fun ac w ha => by
    show ((do eqGuard .neq t x y (ac.eval x) (ac.eval y); binOp .neq t (ac.eval x) (ac.eval y) : Sem Value) >>= fun v => pure (Next.value v)).run P w = _
    rw [ha.ev hx, ha.ev hy, Sem.run_bind, Sem.run_bind, show eqGuard .neq t x y (.bool a) (.bool b) = pure () from rfl, Sem.run_pure, Result.andThen_ok]
    simp [binOp, run_equal_bool, bne]) k
end
end Go.SL
