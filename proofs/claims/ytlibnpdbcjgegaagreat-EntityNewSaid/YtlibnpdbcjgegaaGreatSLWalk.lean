/-
  Rules of a small separation logic for walks: slices, texts and numbers in operations.
-/
import Derived.Test.YtlibnpdbcjgegaaGreatSLSlice
import Derived.IntWalk
namespace Go.SL
set_option linter.unusedVariables false

section
variable {P : Program} {n : Nat} {o : Outer} {sr : List Tmp} {ops : Array Oper} {Q : Post} {St : List HProp} {rest : List Oper} {xs : Env} {hs : List HProp}
variable {d : Option Tmp} {ty : TypeId} {pos : String} {af : Array Edge}

/-- A fact that the memory tells. -/
theorem W.fact {φ : Prop} (h : ∀ w, Sat o w hs → φ) (k : φ → W P n o sr ops Q St rest xs hs) : W P n o sr ops Q St rest xs hs := ⟨fun a w ha hw => k (h w hw) a w ha hw⟩
theorem C.fact {φ : Prop} {c : Code} (h : ∀ w, Sat o w hs → φ) (k : φ → C P n o Q c xs hs) : C P n o Q c xs hs := ⟨fun a w ha hw => k (h w hw) a w ha hw⟩
theorem E.fact {φ : Prop} {e : Exit} (h : ∀ w, Sat o w hs → φ) (k : φ → E n o Q e xs hs) : E n o Q e xs hs := ⟨fun a w ha hw => k (h w hw) a w ha hw⟩

theorem str_size (s : List UInt8) : (⟨s.toArray⟩ : ByteArray).size = s.length := by simp [ByteArray.size]
/-! slices -/
variable {α : Type} {En : Enc α} {A : Option Addr} {c : Nat} {l : List α} {R : HProp} {r : List HProp}
theorem W.len_slice {t e sz by_ : Nat} {x : Operand} {m c : Nat} [ht : SliceTy P t e sz by_] (hx : ev xs x = some (.slice A m c)) (hd : fits n d = true)
    (k : W P n o sr ops Q St rest (put d (.int .i64 (m : Int)) xs) hs) : W P n o sr ops Q St (⟨d, .call { callee := .builtin .len, args := #[x], argTypes := #[t] }, ty, pos, af, none⟩ :: rest) xs hs :=
  W.val rfl (by simp only [kind]; first | (intro h; cases h; done) | (repeat' split) <;> (intro h; cases h)) hd (fun a w ha => by
    simp [execOp, resolve, invoke, builtin, Builtin.len_, run_underlying ht.und, ha.ev hx, goInt]) k
theorem W.len_str {t : Nat} {x : Operand} {s : List UInt8} [ht : StrTy P t] (hx : ev xs x = some (str s)) (hd : fits n d = true)
    (k : W P n o sr ops Q St rest (put d (.int .i64 (s.length : Int)) xs) hs) : W P n o sr ops Q St (⟨d, .call { callee := .builtin .len, args := #[x], argTypes := #[t] }, ty, pos, af, none⟩ :: rest) xs hs :=
  W.val rfl (by simp only [kind]; first | (intro h; cases h; done) | (repeat' split) <;> (intro h; cases h)) hd (fun a w ha => by
    have h1 : (Builtin.len_ #[t] ty #[str s]).run P w = .ok (.int .i64 (s.length : Int)) w := by
      simp only [Builtin.len_, List.getElem?_toArray, List.getElem?_cons_zero, Sem.run_bind, run_underlying ht.und, Result.andThen_ok, str, Sem.run_pure, goInt, str_size]
    simp only [execOp, resolve, invoke, builtin, Sem.run_bind, Sem.run_pure, Result.andThen_ok, List.map_toArray, List.map_cons, List.map_nil, ha.ev hx, h1]) k
theorem reads_some {o : Outer} {w : World} (h : Sat o w hs) (hf : Find hs R r) (hR : Reads R En A l) (hl : 0 < l.length) :
    ∃ g off, A = some ⟨g, off, none⟩ := by
  obtain ⟨f, hf', hw⟩ := (h.lift hf.lift).head
  rcases hR f w hf' hw with h0 | ⟨g, off, hA, _⟩
  · subst h0; simp at hl
  · exact ⟨g, off, hA⟩
theorem W.index {t e by_ : Nat} {x ix : Operand} {i : Int} {kd : IntKind} [ht : SliceTy P t e En.sz by_] (hx : ev xs x = some (.slice A l.length c)) (hi : ev xs ix = some (.int kd i))
    (hf : Find hs R r) (hR : Reads R En A l) (h0 : 0 ≤ i) (h1 : i < l.length) (hd : fits n d = true)
    (k : ∀ g off, A = some ⟨g, off, none⟩ → W P n o sr ops Q St rest (put d (.pointer (some ⟨g, off + i.toNat * En.sz, none⟩)) xs) hs) :
    W P n o sr ops Q St (⟨d, .indexAddr t x ix, ty, pos, af, none⟩ :: rest) xs hs := by
  refine W.fact (φ := ∃ g off, A = some ⟨g, off, none⟩) (fun w hw => reads_some hw hf hR (by omega)) ?_
  rintro ⟨g, off, hA⟩
  refine W.val rfl (by simp only [kind]; first | (intro h; cases h; done) | (repeat' split) <;> (intro h; cases h)) hd (fun a w ha => ?_) (k g off hA)
  obtain ⟨inf, z, hi2, hsz, _⟩ := ht.info
  show ((Instr.indexAt t (a.eval x) (a.eval ix)) >>= fun v => pure (Next.value v)).run P w = _
  rw [ha.ev hx, ha.ev hi, Sem.run_bind, hA]
  have h2 : 0 ≤ i ∧ i < (l.length : Int) := ⟨h0, h1⟩
  simp [Instr.indexAt, asIntOf, run_underlying ht.und, h2.1, h2.2, sizeOf, typeInfo, hi2, hsz, add_off]
theorem W.load_reads {t g off p : Nat} {x : Operand} {v : Value} {R : HProp} {r : List HProp} (En : Enc α) (l : List α) (i j : Nat) (y : α) [h1 : One P t] (hx : ev xs x = some (.pointer (some ⟨g, p, none⟩)))
    (hf : Find hs R r) (hR : Reads R En (some ⟨g, off, none⟩) l) (hp : p = off + (i * En.sz + j)) (hy : l[i]? = some y) (hv : (En.f y)[j]? = some v)
    (hns : stbD sr d = false) (hd : fits n d = true) (k : W P n o sr ops Q St rest (put d v xs) hs) : W P n o sr ops Q St (⟨d, .load t x, ty, pos, af, none⟩ :: rest) xs hs := by
  refine W.load_of hx (fun w hw => ?_) hns hd k
  obtain ⟨f, hf', hw'⟩ := (hw.lift hf.lift).head
  rcases hR f w hf' hw' with h0 | ⟨g', off', hA, hc⟩
  · subst h0; cases hy
  · cases hA
    rw [hp]
    exact hc _ _ (En.all_get l i j y v hy hv)
theorem W.reads_stay {t g off p : Nat} {x : Operand} {v : Value} {R : HProp} {r : List HProp} (En : Enc α) (l : List α) (i j : Nat) (y : α) [h1 : One P t] (hx : ev xs x = some (.pointer (some ⟨g, p, none⟩)))
    (hf : Find hs R r) (hR : Reads R En (some ⟨g, off, none⟩) l) (hp : p = off + (i * En.sz + j)) (hy : l[i]? = some y) (hv : (En.f y)[j]? = some v)
    (hns : stbD sr d = true) (hd : fits n d = true) (k : W P n o sr ops Q (R :: St) rest (put d v xs) hs) : W P n o sr ops Q St (⟨d, .load t x, ty, pos, af, none⟩ :: rest) xs hs := by
  refine W.stay_of hx hf (fun w hw => ?_) hns hd k
  obtain ⟨f, hf', hw'⟩ := hw
  rcases hR f w hf' hw' with h0 | ⟨g', off', hA, hc⟩
  · subst h0; cases hy
  · cases hA
    rw [hp]
    exact hc _ _ (En.all_get l i j y v hy hv)
theorem firstCells_reads {o : Outer} {w : World} (h : Sat o w hs) (hf : Find hs R r) (hR : Reads R En A l) (c : Nat) (w' : World) (hw : w'.heap = w.heap) :
    (Builtin.firstCells En.sz l.length (.slice A l.length c)).run P w' = .ok (En.all l).toArray w' := by
  obtain ⟨f, hf', hw'⟩ := (h.lift hf.lift).head
  have hh : Holds w' f := fun b x hb => by rw [hw]; exact hw' b x hb
  rcases hR f w' hf' hh with h0 | ⟨g, off, hA, hc⟩
  · subst h0
    cases A with
    | none => rfl
    | some a => simp [Builtin.firstCells, loadCells, loadCellsFrom, Enc.all]
  · subst hA
    simp only [Builtin.firstCells]
    rw [← En.all_length]
    exact run_loadCells g off _ hc
theorem W.append {t e by_ c2 : Nat} {x y : Operand} {l2 : List α} {A2 : Option Addr} {R2 : HProp} {r2 : List HProp} [ht : SliceTy P t e En.sz by_] (hx : ev xs x = some (.slice A l.length c)) (hf : Find hs (sl En e A c l) r)
    (hy : ev xs y = some (.slice A2 l2.length c2)) (hf2 : Find hs R2 r2) (hR : Reads R2 En A2 l2) (hb : (l.length + l2.length) * by_ ≤ 140737488355328) (hm : l.length + l2.length ≤ 140737488355328) (hd : fits n d = true) (hI : Incl St r)
    (k : ∀ A' c', W P n o sr ops Q St rest (put d (.slice A' (l ++ l2).length c') xs) (sl En e A' c' (l ++ l2) :: r)) :
    W P n o sr ops Q St (⟨d, .call { callee := .builtin .append, args := #[x, y], argTypes := #[t, t] }, ty, pos, af, none⟩ :: rest) xs hs :=
  W.op rfl rfl hd fun a w ha hw => by
    obtain ⟨A', c', w', hr, hs'⟩ := Sat.append (P := P) (t := t) (hw.lift hf.lift) l2 A2 c2 (fun w' h => firstCells_reads hw hf2 hR c2 w' h) hb hm ty
    refine ⟨_, w', _, ?_, hs', hI.there, List.length_append ▸ k A' c'⟩
    simp only [execOp, resolve, invoke, builtin, Sem.run_bind, Sem.run_pure, Result.andThen_ok, List.map_toArray, List.map_cons, List.map_nil, ha.ev hx, ha.ev hy, hr]
/-- append to the nil slice. -/
theorem W.append_nil {t e by_ c2 : Nat} {x y : Operand} {l2 : List α} {A2 : Option Addr} {R2 : HProp} {r2 : List HProp} [ht : SliceTy P t e En.sz by_] (hx : ev xs x = some (.slice none 0 0))
    (hy : ev xs y = some (.slice A2 l2.length c2)) (hf2 : Find hs R2 r2) (hR : Reads R2 En A2 l2) (hb : l2.length * by_ ≤ 140737488355328) (hm : l2.length ≤ 140737488355328) (hd : fits n d = true) (hI : Incl St hs)
    (k : ∀ A' c', W P n o sr ops Q St rest (put d (.slice A' l2.length c') xs) (sl En e A' c' l2 :: hs)) :
    W P n o sr ops Q St (⟨d, .call { callee := .builtin .append, args := #[x, y], argTypes := #[t, t] }, ty, pos, af, none⟩ :: rest) xs hs :=
  W.lift (Lift.emp (sl_emp En e) hs) (W.append (l := []) hx .here hy (.there hf2) hR (by simpa using hb) (by simpa using hm) hd hI k)

/-! a slice written out -/
theorem fold_setAll (off : Nat) : ∀ (vs : List Value) (k : Nat) (acc : Array Value),
    (vs.zipIdx k).foldl (fun cs (p : Value × Nat) => cs.setIfInBounds (off + p.2) p.1) acc = (setAll acc.toList (off + k) vs).toArray := by
  intro vs
  induction vs with
  | nil => intro k acc; simp [setAll]
  | cons v vs ih =>
    intro k acc
    have h := ih (k + 1) (acc.setIfInBounds (off + k) v)
    simp only [List.zipIdx_cons, List.foldl_cons, setAll, Array.toList_setIfInBounds] at h ⊢
    exact h
theorem zipIdx_foldl {β : Type} (vs : Array Value) (f : β → Value × Nat → β) (b : β) : vs.zipIdx.foldl f b = (vs.toList.zipIdx 0).foldl f b := by
  rw [← Array.foldl_toList, Array.toList_zipIdx]
def enum : Nat → List Value → List (Nat × Value)
  | _, [] => []
  | k, v :: vs => (k, v) :: enum (k + 1) vs
theorem fill_enum (sz : Nat) : ∀ (vs : List Value) (k : Nat) (cells : Array Value), (∀ v ∈ vs, v.cells.size = sz) → (k + vs.length) * sz ≤ cells.size →
    Instr.fill (fun i => some (i * sz, sz)) cells (enum k vs) = some (setAll cells.toList (k * sz) (vs.flatMap fun v => v.cells.toList)).toArray
  | [], k, cells, _, _ => by simp [enum, Instr.fill, setAll]
  | v :: vs, k, cells, h, hl => by
    have hv := h v List.mem_cons_self
    simp only [List.length_cons] at hl
    have hle : k * sz + sz ≤ cells.size := by
      have : (k + 1) * sz ≤ (k + (vs.length + 1)) * sz := Nat.mul_le_mul_right _ (by omega)
      rw [Nat.add_mul, Nat.one_mul] at this; omega
    have hf := fold_setAll (k * sz) v.cells.toList 0 cells
    simp only [Nat.add_zero] at hf
    simp only [enum, Instr.fill, hv]
    rw [if_neg (by simp; omega), zipIdx_foldl, hf]
    rw [fill_enum sz vs (k + 1) _ (fun u hu => h u (List.mem_cons_of_mem _ hu)) (by simp only [List.size_toArray, setAll_length, Array.length_toList]; rw [show k + 1 + vs.length = k + (vs.length + 1) from by omega]; exact hl)]
    congr 2
    simp only [List.flatMap_cons]
    have app : ∀ (a b : List Value) (cs : List Value) (j : Nat), setAll (setAll cs j a) (j + a.length) b = setAll cs j (a ++ b) := by
      intro a
      induction a with
      | nil => intro b cs j; rfl
      | cons x a ih => intro b cs j; simp only [setAll, List.cons_append, List.length_cons]; rw [← ih, show j + (a.length + 1) = j + 1 + a.length from by omega]
    have := app v.cells.toList (vs.flatMap fun v => v.cells.toList) cells.toList (k * sz)
    rw [← this, Array.length_toList, hv, Nat.add_mul, Nat.one_mul]
theorem setAll_all (cs vs : List Value) (h : cs.length = vs.length) : setAll cs 0 vs = vs := by
  have := setAll_mid [] cs [] vs h
  simpa using this
theorem W.buildSlice {t e by_ : Nat} {parts : Array (Nat × Operand)} {vs : List Value} (En : Enc α) (l : List α) [ht : SliceTy P t e En.sz by_] {m : Nat} (hm : m = l.length) (hml : l.length * En.sz ≤ 16777216)
    (hp : parts.toList.map (fun p => (p.1, ev xs p.2)) = (enum 0 vs).map (fun p => (p.1, some p.2))) (hv : vs.map (fun v => v.cells.toList) = l.map En.f) (hd : fits n d = true) (hI : Incl St hs)
    (k : ∀ b, W P n o sr ops Q St rest (put d (.slice (some ⟨b, 0, none⟩) l.length l.length) xs) (sl En e (some ⟨b, 0, none⟩) l.length l :: hs)) :
    W P n o sr ops Q St (⟨d, .buildSlice t m parts, ty, pos, af, none⟩ :: rest) xs hs :=
  W.op rfl rfl hd fun a w ha hw => by
    subst hm
    obtain ⟨i, z, hi, hsz, hby, hz, hzs⟩ := ht.info
    have hlen : vs.length = l.length := by have := congrArg List.length hv; simpa using this
    have hvs : ∀ v ∈ vs, v.cells.size = En.sz := by
      intro v hvm
      have : v.cells.toList ∈ l.map En.f := hv ▸ List.mem_map_of_mem hvm
      obtain ⟨x, _, hx⟩ := List.mem_map.1 this
      rw [← Array.length_toList, ← hx, En.len]
    have hflat : (vs.flatMap fun v => v.cells.toList) = En.all l := by
      simp only [Enc.all, List.flatMap, hv]
    have hparts : (parts.map fun p => (p.1, a.eval p.2)).toList = enum 0 vs := by
      have key : ∀ (ps : List (Nat × Operand)) (es : List (Nat × Value)), ps.map (fun p => (p.1, ev xs p.2)) = es.map (fun p => (p.1, some p.2)) → ps.map (fun p => (p.1, a.eval p.2)) = es := by
        intro ps
        induction ps with
        | nil => intro es h; cases es with
          | nil => rfl
          | cons => cases h
        | cons p ps ih => intro es h; cases es with
          | nil => cases h
          | cons q es =>
            simp only [List.map_cons, List.cons.injEq, Prod.mk.injEq] at h ⊢
            exact ⟨by rw [Prod.mk.injEq]; exact ⟨h.1.1, ha.ev h.1.2⟩, ih es h.2⟩
      simpa using key _ _ hp
    have hz2 : (if l.length * En.sz = 0 then (#[] : Array Value) else z.cells).size = if l.length * En.sz = 0 then 0 else En.sz := by split <;> simp [hzs]
    have hfill : Instr.fill (fun i => some (i * En.sz, En.sz)) ((Array.range (l.length * En.sz)).map ((if l.length * En.sz = 0 then (#[] : Array Value) else z.cells)[· % (if l.length * En.sz = 0 then (#[] : Array Value) else z.cells).size]!)) (parts.map fun p => (p.1, a.eval p.2)).toList
        = some (En.all l).toArray := by
      rw [hparts, fill_enum En.sz vs 0 _ hvs (by simp [hlen])]
      rw [hflat]
      congr 2
      rw [Nat.zero_mul]
      exact setAll_all _ _ (by rw [Array.length_toList, Array.size_map, Array.size_range, En.all_length])
    have hsat := hw.alloc e (En.all l)
    refine ⟨.slice (some ⟨w.heap.size, 0, none⟩) l.length l.length, w.alloc (.cells (En.all l).toArray e), _, ?_, ?_, hI.there, k w.heap.size⟩
    · show ((Instr.buildSlice t l.length (parts.map fun p => (p.1, a.eval p.2))) >>= fun v => pure (Next.value v)).run P w = _
      have hml' : ¬ 16777216 < l.length * En.sz := by omega
      by_cases hz0 : l.length * En.sz = 0
      · simp only [hz0, if_true] at hfill
        simp [Instr.buildSlice, run_underlying ht.und, sizeOf, typeInfo, hi, hsz, hz0, newRow] at hfill ⊢
        rw [hfill]; rfl
      · simp only [hz0, if_false] at hfill
        simp [Instr.buildSlice, run_underlying ht.und, sizeOf, typeInfo, hi, hsz, hz0, newRow, hml', zeroValue, hz] at hfill ⊢
        rw [hfill]; rfl
    · have : Sat o (w.alloc (.cells (En.all l).toArray e)) (blk w.heap.size e ([] ++ En.all l ++ []) :: hs) := by simpa using hsat
      refine this.sl_close (pre := []) (by simp [En.all_length]) ?_
      have : l.length ≤ l.length * En.sz := Nat.le_mul_of_pos_right _ En.pos
      rw [maxLen_eq]; omega
/-- A slice of one, written out (append's own). -/
theorem W.slice1 {t e by_ : Nat} {x : Operand} {v : Value} (En : Enc α) (y : α) [ht : SliceTy P t e En.sz by_] (hx : ev xs x = some v) (hv : v.cells.toList = En.f y) (hsz : Nat.ble En.sz 4096 = true) (hd : fits n d = true) (hI : Incl St hs)
    (k : ∀ b, W P n o sr ops Q St rest (put d (.slice (some ⟨b, 0, none⟩) [y].length 1) xs) (sl En e (some ⟨b, 0, none⟩) 1 [y] :: hs)) :
    W P n o sr ops Q St (⟨d, .buildSlice t 1 #[(0, x)], ty, pos, af, none⟩ :: rest) xs hs :=
  W.buildSlice En [y] (vs := [v]) rfl (by have := Nat.le_of_ble_eq_true hsz; simp; omega) (by simp [enum, hx]) (by simp [hv]) hd hI k
end
end Go.SL
