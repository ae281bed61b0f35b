/-
  Rules for walks that choose by themselves: places by the slice's address, whatever it is; conditions that part a walk in two.
-/
import Derived.Test.YtlibnpdbcjgegaaGreatSLAgg
namespace Go.SL
set_option linter.unusedVariables false

def bk (A : Option Addr) : Nat := match A with | some a => a.block | none => 0
def of (A : Option Addr) : Nat := match A with | some a => a.off | none => 0
/-- What holds R tells a cell. -/
def CellAt (R : HProp) (b i : Nat) (v : Value) : Prop := ∀ f w, R f → Holds w f → w.cell? ⟨b, i, none⟩ = some v
class Cel (R : HProp) (b i : Nat) (v : outParam Value) : Prop where
  cell : CellAt R b i v
class Rd {α : outParam Type} (R : HProp) (En : outParam (Enc α)) (A : Option Addr) (l : outParam (List α)) : Prop where
  reads : Reads R En A l
inductive FindC : List HProp → HProp → Nat → Nat → Value → Prop
  | here {R : HProp} {r : List HProp} {b i : Nat} {v : Value} (h : CellAt R b i v) : FindC (R :: r) R b i v
  | there {R S : HProp} {r : List HProp} {b i : Nat} {v : Value} (h : FindC r R b i v) : FindC (S :: r) R b i v
inductive FindS {α : Type} : List HProp → HProp → Enc α → Option Addr → List α → Prop
  | here {R : HProp} {r : List HProp} {En : Enc α} {A : Option Addr} {l : List α} (h : Reads R En A l) : FindS (R :: r) R En A l
  | there {R S : HProp} {r : List HProp} {En : Enc α} {A : Option Addr} {l : List α} (h : FindS r R En A l) : FindS (S :: r) R En A l
theorem FindC.mem {hs : List HProp} {R : HProp} {b i : Nat} {v : Value} (h : FindC hs R b i v) : (∃ r, Find hs R r) ∧ CellAt R b i v := by
  induction h with
  | here h => exact ⟨⟨_, .here⟩, h⟩
  | there _ ih => obtain ⟨⟨r, hr⟩, h⟩ := ih; exact ⟨⟨_, .there hr⟩, h⟩
theorem FindS.mem {α : Type} {hs : List HProp} {R : HProp} {En : Enc α} {A : Option Addr} {l : List α} (h : FindS hs R En A l) : (∃ r, Find hs R r) ∧ Reads R En A l := by
  induction h with
  | here h => exact ⟨⟨_, .here⟩, h⟩
  | there _ ih => obtain ⟨⟨r, hr⟩, h⟩ := ih; exact ⟨⟨_, .there hr⟩, h⟩
theorem reads_bk {α : Type} {R : HProp} {En : Enc α} {A : Option Addr} {l : List α} (h : Reads R En A l) {f : Hp} {w : World} (hf : R f) (hw : Holds w f) :
    l = [] ∨ (A = some ⟨bk A, of A, none⟩ ∧ ∀ i v, (En.all l)[i]? = some v → w.cell? ⟨bk A, of A + i, none⟩ = some v) := by
  rcases h f w hf hw with h0 | ⟨g, off, rfl, hc⟩
  · exact .inl h0
  · exact .inr ⟨rfl, hc⟩
theorem reads_cell {α : Type} {R : HProp} {En : Enc α} {A : Option Addr} {l : List α} (h : Reads R En A l) {i j : Nat} {y : α} {v : Value} (hy : l[i]? = some y) (hv : (En.f y)[j]? = some v) :
    CellAt R (bk A) (of A + (i * En.sz + j)) v := by
  intro f w hf hw
  rcases reads_bk h hf hw with h0 | ⟨_, hc⟩
  · subst h0; cases hy
  · exact hc _ _ (En.all_get l i j y v hy hv)
theorem blk_cellAt {b T i : Nat} {cs : List Value} {v : Value} (hv : cs[i]? = some v) : CellAt (blk b T cs) b i v := by
  rintro f w ⟨fr, _, rfl⟩ hf
  have hb := hf b _ (one_self _ _)
  simp [World.cell?, hb, hv]
/-! arrays within structs -/
class ArrTy (P : Program) (t : TypeId) (L e sz : outParam Nat) : Prop where
  und : P.underlying t = some (.array L e)
  info : ∃ i, P.info? e = some i ∧ i.size = sz
def arrB (P : Program) (t : TypeId) : Option (Nat × Nat × Nat) := match P.underlying t with
  | some (.array L e) => match P.info? e with
    | some i => some (L, e, i.size)
    | none => none
  | _ => none
theorem ArrTy.of {P : Program} {t L e sz : Nat} (h : arrB P t = some (L, e, sz)) : ArrTy P t L e sz := by
  unfold arrB at h
  split at h
  · rename_i L' e' hu
    split at h
    · rename_i i hi
      simp only [Option.some.injEq, Prod.mk.injEq] at h
      obtain ⟨rfl, rfl, rfl⟩ := h
      exact ⟨hu, i, hi, rfl⟩
    · cases h
  · cases h
section
variable {P : Program} {n : Nat} {o : Outer} {sr : List Tmp} {ops : Array Oper} {Q : Post} {St : List HProp} {rest : List Oper} {xs : Env} {hs : List HProp}
variable {d : Option Tmp} {ty : TypeId} {pos : String} {af : Array Edge} {α : Type} {En : Enc α} {A : Option Addr} {l : List α} {R : HProp}
theorem W.ix {t e sz by_ m c q : Nat} {x ix : Operand} {i : Int} {kd : IntKind} [ht : SliceTy P t e sz by_] (hx : ev xs x = some (.slice A m c)) (hi : ev xs ix = some (.int kd i))
    (hf : FindS hs R En A l) (hm : m = l.length) (hsz : En.sz = sz) (h0 : 0 ≤ i) (h1 : i < m) (hq : i.toNat = q) (hd : fits n d = true)
    (k : W P n o sr ops Q St rest (put d (.pointer (some ⟨bk A, of A + q * sz, none⟩)) xs) hs) :
    W P n o sr ops Q St (⟨d, .indexAddr t x ix, ty, pos, af, none⟩ :: rest) xs hs := by
  obtain ⟨⟨r, hfr⟩, hR⟩ := hf.mem
  subst hm hsz hq
  exact W.index (En := En) hx hi hfr hR h0 h1 hd (fun g off hA => by subst hA; exact k)
theorem run_arr {P : Program} {t L e sz b p : Nat} {i : Int} {kd : IntKind} {w : World} [ht : ArrTy P t L e sz] (h0 : 0 ≤ i) (h1 : i < L) : (Instr.indexAt t (.pointer (some ⟨b, p, none⟩)) (.int kd i)).run P w = .ok (.pointer (some ⟨b, p + i.toNat * sz, none⟩)) w := by
  obtain ⟨inf, hi2, hsz⟩ := ht.info
  simp [Instr.indexAt, asIntOf, run_underlying ht.und, h0, h1, sizeOf, typeInfo, hi2, hsz, add_off, Instr.sureAddr]
theorem W.ixe {t L e sz b p q j j' : Nat} {x ix : Operand} {i : Int} {kd : IntKind} [ht : ArrTy P t L e sz] (hx : ev xs x = some (.pointer (some ⟨b, p + j, none⟩))) (hi : ev xs ix = some (.int kd i)) (h0 : 0 ≤ i) (h1 : i < L) (hq : i.toNat = q) (hj : j + q * sz = j')
    (hns : stbD sr d = false) (hd : fits n d = true) (k : W P n o sr ops Q St rest (put d (.pointer (some ⟨b, p + j', none⟩)) xs) hs) : W P n o sr ops Q St (⟨d, .indexAddr t x ix, ty, pos, af, none⟩ :: rest) xs hs := by
  subst hq hj
  refine W.read rfl (by simp [kind, ht.und]) hns hd (fun a w ha hw => ?_) k
  show ((Instr.indexAt t (a.eval x) (a.eval ix)) >>= fun v => pure (Next.value v)).run P w = _
  rw [ha.ev hx, ha.ev hi, Sem.run_bind, run_arr (ht := ht) h0 h1]
  simp [Nat.add_assoc]
theorem W.ixe_stay {t L e sz b p q j j' : Nat} {x ix : Operand} {i : Int} {kd : IntKind} {R : HProp} {r : List HProp} [ht : ArrTy P t L e sz] (hx : ev xs x = some (.pointer (some ⟨b, p + j, none⟩))) (hi : ev xs ix = some (.int kd i)) (h0 : 0 ≤ i) (h1 : i < L) (hq : i.toNat = q) (hj : j + q * sz = j')
    (hf : Find hs R r) (hns : stbD sr d = true) (hd : fits n d = true) (k : W P n o sr ops Q (R :: St) rest (put d (.pointer (some ⟨b, p + j', none⟩)) xs) hs) : W P n o sr ops Q St (⟨d, .indexAddr t x ix, ty, pos, af, none⟩ :: rest) xs hs := by
  subst hq hj
  refine W.stay rfl (by simp [kind, ht.und]) hns hd hf (fun a w ha hw => ?_) k
  show ((Instr.indexAt t (a.eval x) (a.eval ix)) >>= fun v => pure (Next.value v)).run P w = _
  rw [ha.ev hx, ha.ev hi, Sem.run_bind, run_arr (ht := ht) h0 h1]
  simp [Nat.add_assoc]
theorem W.ldc {t b i : Nat} {x : Operand} {v : Value} [h1 : One P t] (hx : ev xs x = some (.pointer (some ⟨b, i, none⟩))) (hf : FindC hs R b i v) (hns : stbD sr d = false) (hd : fits n d = true)
    (k : W P n o sr ops Q St rest (put d v xs) hs) : W P n o sr ops Q St (⟨d, .load t x, ty, pos, af, none⟩ :: rest) xs hs := by
  obtain ⟨⟨r, hfr⟩, hc⟩ := hf.mem
  exact W.load_of hx (fun w hw => by obtain ⟨f, hf, hh⟩ := (hw.lift hfr.lift).head; exact hc f w hf hh) hns hd k
theorem W.ldc_stay {t b i : Nat} {x : Operand} {v : Value} [h1 : One P t] (hx : ev xs x = some (.pointer (some ⟨b, i, none⟩))) (hf : FindC hs R b i v) (hns : stbD sr d = true) (hd : fits n d = true)
    (k : W P n o sr ops Q (R :: St) rest (put d v xs) hs) : W P n o sr ops Q St (⟨d, .load t x, ty, pos, af, none⟩ :: rest) xs hs := by
  obtain ⟨⟨r, hfr⟩, hc⟩ := hf.mem
  exact W.stay_of hx hfr (fun w hw => by obtain ⟨f, hf, hh⟩ := hw; exact hc f w hf hh) hns hd k
theorem FindS.cell {hs : List HProp} {i j p sz : Nat} {y : α} {v : Value} (h : FindS hs R En A l) (hsz : En.sz = sz) (hy : l[i]? = some y) (hv : (En.f y)[j]? = some v) (hp : p = of A + (i * sz + j)) : FindC hs R (bk A) p v := by
  subst hsz hp
  induction h with
  | here h => exact .here (reads_cell h hy hv)
  | there _ ih => exact .there (ih hy hv)
theorem W.ld0 {t i sz : Nat} {x : Operand} {y : α} {v : Value} [h1 : One P t] (hx : ev xs x = some (.pointer (some ⟨bk A, of A + i * sz, none⟩))) (hf : FindS hs R En A l) (hsz : En.sz = sz) (hy : l[i]? = some y) (hv : (En.f y)[0]? = some v)
    (hns : stbD sr d = false) (hd : fits n d = true) (k : W P n o sr ops Q St rest (put d v xs) hs) : W P n o sr ops Q St (⟨d, .load t x, ty, pos, af, none⟩ :: rest) xs hs :=
  W.ldc hx (hf.cell hsz hy hv rfl) hns hd k
theorem W.ldj {t i j sz : Nat} {x : Operand} {y : α} {v : Value} [h1 : One P t] (hx : ev xs x = some (.pointer (some ⟨bk A, of A + i * sz + j, none⟩))) (hf : FindS hs R En A l) (hsz : En.sz = sz) (hy : l[i]? = some y) (hv : (En.f y)[j]? = some v)
    (hns : stbD sr d = false) (hd : fits n d = true) (k : W P n o sr ops Q St rest (put d v xs) hs) : W P n o sr ops Q St (⟨d, .load t x, ty, pos, af, none⟩ :: rest) xs hs :=
  W.ldc hx (hf.cell hsz hy hv (Nat.add_assoc ..)) hns hd k
theorem W.ld0_stay {t i sz : Nat} {x : Operand} {y : α} {v : Value} [h1 : One P t] (hx : ev xs x = some (.pointer (some ⟨bk A, of A + i * sz, none⟩))) (hf : FindS hs R En A l) (hsz : En.sz = sz) (hy : l[i]? = some y) (hv : (En.f y)[0]? = some v)
    (hns : stbD sr d = true) (hd : fits n d = true) (k : W P n o sr ops Q (R :: St) rest (put d v xs) hs) : W P n o sr ops Q St (⟨d, .load t x, ty, pos, af, none⟩ :: rest) xs hs :=
  W.ldc_stay hx (hf.cell hsz hy hv rfl) hns hd k
theorem W.ldj_stay {t i j sz : Nat} {x : Operand} {y : α} {v : Value} [h1 : One P t] (hx : ev xs x = some (.pointer (some ⟨bk A, of A + i * sz + j, none⟩))) (hf : FindS hs R En A l) (hsz : En.sz = sz) (hy : l[i]? = some y) (hv : (En.f y)[j]? = some v)
    (hns : stbD sr d = true) (hd : fits n d = true) (k : W P n o sr ops Q (R :: St) rest (put d v xs) hs) : W P n o sr ops Q St (⟨d, .load t x, ty, pos, af, none⟩ :: rest) xs hs :=
  W.ldc_stay hx (hf.cell hsz hy hv (Nat.add_assoc ..)) hns hd k
/-- A whole element, or a part of one that is an aggregate, read. -/
theorem W.lda {t i j m p sz : Nat} {x : Operand} {y : α} {vs : List Value} [h1 : AggTy P t m] (hx : ev xs x = some (.pointer (some ⟨bk A, p, none⟩))) (hp : p = of A + i * sz + j) (hf : FindS hs R En A l) (hsz : En.sz = sz) (hy : l[i]? = some y)
    (hv : ((En.f y).drop j).take m = vs) (hm : vs.length = m)
    (hns : stbD sr d = false) (hd : fits n d = true) (k : W P n o sr ops Q St rest (put d (.agg vs.toArray) xs) hs) : W P n o sr ops Q St (⟨d, .load t x, ty, pos, af, none⟩ :: rest) xs hs := by
  subst hp hsz
  obtain ⟨⟨r, hfr⟩, hR⟩ := hf.mem
  refine W.agg_of hx hm (fun w hw j' v hj => ?_) hns hd k
  obtain ⟨f, hf', hh⟩ := (hw.lift hfr.lift).head
  have hv' : (En.f y)[j + j']? = some v := by
    rw [← hv, List.getElem?_take] at hj
    split at hj
    · rwa [List.getElem?_drop] at hj
    · cases hj
  rw [Nat.add_assoc, Nat.add_assoc]
  exact reads_cell hR hy hv' f w hf' hh
theorem sl_at {e c : Nat} {o : Outer} {w : World} {r : List HProp} (h : Sat o w (sl En e A c l :: r)) (hl : l ≠ []) : A = some ⟨bk A, of A, none⟩ := by
  obtain ⟨f, hf, hh⟩ := h.head
  rcases hf with ⟨_, _, h0, _⟩ | ⟨g, pre, spare, hA, _⟩
  · exact absurd h0 hl
  · subst hA; rfl
/-- A cell of an element of a slice of its own is written. -/
theorem W.st {t e p c i j sz : Nat} {x y : Operand} {v : Value} {u : α} {r : List HProp} [h1 : One P t] (u' : α) (hx : ev xs x = some (.pointer (some ⟨bk A, p, none⟩))) (hy : ev xs y = some v) (h0 : v.oneCell' = true)
    (hf : Find hs (sl En e A c l) r) (hp : p = of A + i * sz + j) (hsz : En.sz = sz) (hu : l[i]? = some u) (hj : Nat.blt j sz = true) (hset : En.f u' = (En.f u).set j v)
    (hI : Keep (freeSt sr ops ⟨none, .store t x y, ty, pos, af, none⟩) St (sl En e A c (l.set i u') :: r)) (k : W P n o sr ops Q St rest xs (sl En e A c (l.set i u') :: r)) :
    W P n o sr ops Q St (⟨none, .store t x y, ty, pos, af, none⟩ :: rest) xs hs := by
  subst hp hsz
  have hj' : j < En.sz := by simpa [Nat.blt_eq] using hj
  refine W.fact (φ := A = some ⟨bk A, of A, none⟩) (fun w hw => sl_at (hw.lift hf.lift) (by rintro rfl; cases hu)) fun hA => ?_
  generalize bk A = g at *
  generalize of A = off at *
  subst hA
  exact W.store_sl En i j u u' hx hy h0 hf (by rw [Nat.add_assoc]) hu hj' hset hI k
/-- An element of a slice of its own is written. -/
theorem W.sta {t e p c i m sz : Nat} {x y : Operand} {vs : List Value} {r : List HProp} [h1 : AggTy P t m] (u' : α) (hx : ev xs x = some (.pointer (some ⟨bk A, p, none⟩))) (hy : ev xs y = some (.agg vs.toArray))
    (hf : Find hs (sl En e A c l) r) (hp : p = of A + i * sz) (hsz : En.sz = sz) (hi : i < l.length) (hset : En.f u' = vs) (hm : En.sz = m)
    (hI : Keep (freeSt sr ops ⟨none, .store t x y, ty, pos, af, none⟩) St (sl En e A c (l.set i u') :: r)) (k : W P n o sr ops Q St rest xs (sl En e A c (l.set i u') :: r)) :
    W P n o sr ops Q St (⟨none, .store t x y, ty, pos, af, none⟩ :: rest) xs hs := by
  subst hp hsz
  refine W.fact (φ := A = some ⟨bk A, of A, none⟩) (fun w hw => sl_at (hw.lift hf.lift) (by rintro rfl; simp at hi)) fun hA => ?_
  generalize bk A = g at *
  generalize of A = off at *
  subst hA
  exact W.store_agg_sl (A := none) En i u' hx hy hf rfl hi hset hm hI k
/-! conditions -/
theorem Ok.learn {n : Nat} {xs : Env} {a : Act} (h : Ok n xs a) {t : Tmp} {v : Value} (ht : SL.get xs t = some v) : Ok n ((t, v) :: xs) a := by
  refine ⟨h.size, h.defers, fun s u hu => ?_⟩
  simp only [SL.get] at hu
  by_cases e : t = s
  · subst e
    simp only [Nat.beq_refl, cond_true, Option.some.injEq] at hu
    subst hu; exact h.get _ _ ht
  · have hne : Nat.beq t s = false := by rw [← Bool.not_eq_true, Nat.beq_eq]; exact e
    rw [hne, cond_false] at hu
    exact h.get _ _ hu
theorem W.guard_b {op : Op} {j : Nat} {want b : Bool} {t : Tmp} (hj : (ops[j]?).bind (·.dst) = some t) (hb : get xs t = some (.bool b)) (hd : fits n d = true)
    (k1 : b = want → W P n o sr ops Q St (⟨d, op, ty, pos, af, none⟩ :: rest) ((t, .bool want) :: xs) hs)
    (k2 : b = (!want) → W P n o sr ops Q St rest (put d undef ((t, .bool (!want)) :: xs)) hs) : W P n o sr ops Q St (⟨d, op, ty, pos, af, some (j, want)⟩ :: rest) xs hs := by
  constructor; intro a w ha hw
  by_cases h : b = want
  · subst h
    exact W.guard_yes hj (by simp [SL.get]) (k1 rfl) a w (ha.learn hb) hw
  · have h' : b = !want := by cases b <;> cases want <;> simp_all
    subst h'
    exact W.guard_no hj (b := !want) (by simp [SL.get]) rfl hd (k2 rfl) a w (ha.learn hb) hw
theorem C.cond_b {t : Tmp} {x y : Code} {b : Bool} (hc : get xs t = some (.bool b)) (ht : b = true → C P n o Q x ((t, .bool true) :: xs) hs) (hf : b = false → C P n o Q y ((t, .bool false) :: xs) hs) : C P n o Q (.cond (.tmp t) x y) xs hs :=
  C.cond (b := b) hc (fun e => by subst e; exact ⟨fun a w ha hw => ht rfl a w (ha.learn hc) hw⟩) (fun e => by subst e; exact ⟨fun a w ha hw => hf rfl a w (ha.learn hc) hw⟩)
/-- The other way of a guarded operation, where what it would give is not looked at. -/
theorem W.bcase (b : Bool) (k1 : b = true → W P n o sr ops Q St rest xs hs) (k2 : b = false → W P n o sr ops Q St rest xs hs) : W P n o sr ops Q St rest xs hs := by
  cases b with
  | true => exact k1 rfl
  | false => exact k2 rfl
theorem wrap64 {a : Int} (h1 : -9223372036854775808 ≤ a) (h2 : a ≤ 9223372036854775807) : IntKind.i64.wrap a = a := IntWalk.i64_in _ ⟨h1, h2⟩
theorem wrapu {a : Int} {k : IntKind} (hk : k.signed = false) (h1 : 0 ≤ a) (h2 : a < 2 ^ k.bits) : k.wrap a = a := by
  simp only [IntKind.wrap, hk, Bool.false_eq_true, if_false, Bool.false_and]
  first | exact Int.emod_eq_of_lt h1 h2 | (simp; exact Int.emod_eq_of_lt h1 h2)
theorem W.cv {src dst : TypeId} {x : Operand} {ks kd k2 : IntKind} {a b : Int} [hs0 : IntTy P src ks] [ht : IntTy P dst k2] (hx : ev xs x = some (.int kd a)) (hb : k2.wrap a = b) (hd : fits n d = true)
    (k : W P n o sr ops Q St rest (put d (.int k2 b) xs) hs) : W P n o sr ops Q St (⟨d, .convert src dst x, ty, pos, af, none⟩ :: rest) xs hs :=
  W.conv_int hs0.und hx hb hd k
end
end Go.SL
