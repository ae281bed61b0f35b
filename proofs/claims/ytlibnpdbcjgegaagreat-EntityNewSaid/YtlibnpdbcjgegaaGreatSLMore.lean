/-
  Rules of a small separation logic for walks: texts, numbers, comparisons, pieces of slices.
-/
import Derived.Test.YtlibnpdbcjgegaaGreatSLWalk
import Derived.Laws.BytesArg
import Derived.Lib.ConvBytes
import Derived.Laws.Strings2
namespace Go.SL
set_option linter.unusedVariables false

class BytesTy (P : Program) (t : TypeId) (e : outParam Nat) : Prop where
  und : P.underlying t = some (.slice e)
  elem : P.underlying e = some (.int .u8)

section
variable {P : Program} {n : Nat} {o : Outer} {sr : List Tmp} {ops : Array Oper} {Q : Post} {St : List HProp} {rest : List Oper} {xs : Env} {hs : List HProp}
variable {d : Option Tmp} {ty : TypeId} {pos : String} {af : Array Edge}

theorem strOfNums_bytes (l : List UInt8) : strOfNums (l.map fun c => (c.toNat : Int)) = ⟨l.toArray⟩ := by
  have : ((fun n : Int => UInt8.ofNat n.toNat) ∘ fun c : UInt8 => (c.toNat : Int)) = id := by funext c; simp
  simp [strOfNums, this]
theorem u8_all (l : List UInt8) : Enc.u8.all l = (l.map fun c => (c.toNat : Int)).map (Value.int .u8) := by
  simp [Enc.all, List.flatMap, List.map_map]
  induction l with
  | nil => rfl
  | cons x l ih => simp [ih]
theorem run_bytes_str {src dst e : Nat} {A : Option Addr} {c : Nat} {l : List UInt8} {R : HProp} [hb : BytesTy P src e] [ht : StrTy P dst] (hR : Reads R Enc.u8 A l) (w : World) (hw : holds R w) :
    (convert src dst (.slice A l.length c)).run P w = .ok (str l) w := by
  obtain ⟨f, hf', hw'⟩ := hw
  rcases hR f w hf' hw' with h0 | ⟨g, off, hA, hc⟩
  · subst h0
    cases A with
    | none => exact run_convert_bytes_nil w src e hb.und hb.elem 0 c dst ht.und
    | some ad =>
      rw [run_convert_bytes_string w src dst e _ _ c hb.und hb.elem ht.und, run_bytesToString w ad _ c [] (by simp [loadCells, loadCellsFrom])]
      rfl
  · subst hA
    have := run_convert_bytes_arg w src e hb.und hb.elem g off l.length c (l.map fun c => (c.toNat : Int)) (by simp) (fun i hi => by
      refine hc i _ ?_
      rw [u8_all]
      simp [hi]) dst ht.und
    rw [strOfNums_bytes] at this
    exact this
/-- string(b) -/
theorem W.bytes_str {src dst e : Nat} {x : Operand} {A : Option Addr} {c : Nat} {l : List UInt8} {R : HProp} {r : List HProp} [hb : BytesTy P src e] [ht : StrTy P dst] (hx : ev xs x = some (.slice A l.length c))
    (hf : Find hs R r) (hR : Reads R Enc.u8 A l) (hns : stbD sr d = false) (hd : fits n d = true) (k : W P n o sr ops Q St rest (put d (str l) xs) hs) :
    W P n o sr ops Q St (⟨d, .convert src dst x, ty, pos, af, none⟩ :: rest) xs hs := by
  refine W.read rfl (by simp [kind, ht.und]) hns hd (fun a w ha hw => ?_) k
  show ((convert src dst (a.eval x)) >>= fun v => pure (Next.value v)).run P w = _
  rw [ha.ev hx, Sem.run_bind, run_bytes_str hR w (hw.holds hf.mem)]; rfl
theorem W.bytes_str_stay {src dst e : Nat} {x : Operand} {A : Option Addr} {c : Nat} {l : List UInt8} {R : HProp} {r : List HProp} [hb : BytesTy P src e] [ht : StrTy P dst] (hx : ev xs x = some (.slice A l.length c))
    (hf : Find hs R r) (hR : Reads R Enc.u8 A l) (hns : stbD sr d = true) (hd : fits n d = true) (k : W P n o sr ops Q (R :: St) rest (put d (str l) xs) hs) :
    W P n o sr ops Q St (⟨d, .convert src dst x, ty, pos, af, none⟩ :: rest) xs hs := by
  refine W.stay rfl (by simp [kind, ht.und]) hns hd hf (fun a w ha hw => ?_) k
  show ((convert src dst (a.eval x)) >>= fun v => pure (Next.value v)).run P w = _
  rw [ha.ev hx, Sem.run_bind, run_bytes_str hR w hw]; rfl
/-- []byte(s) -/
theorem W.str_bytes {src dst e : Nat} {x : Operand} {l : List UInt8} [hb : BytesTy P dst e] [ht : StrTy P src] (hx : ev xs x = some (str l)) (hl : l.length ≤ 140737488355328) (hd : fits n d = true) (hI : Incl St hs)
    (k : ∀ A c, W P n o sr ops Q St rest (put d (.slice A l.length c) xs) (sl Enc.u8 e A c l :: hs)) :
    W P n o sr ops Q St (⟨d, .convert src dst x, ty, pos, af, none⟩ :: rest) xs hs := by
  refine W.op rfl (by simp [kind, hb.und]) hd fun a w ha hw => ?_
  have hrun := Lib.run_convert_string_bytes (P := P) w src dst e ⟨l.toArray⟩ ht.und hb.und hb.elem
  rw [str_size] at hrun
  refine ⟨_, Lib.bytesWorld w e ⟨l.toArray⟩, _, ?_, ?_, hI.there, k (some ⟨w.heap.size, 0, none⟩) (grownCap w l.length 0 e)⟩
  · show ((convert src dst (a.eval x)) >>= fun v => pure (Next.value v)).run P w = _
    rw [ha.ev hx, Sem.run_bind, hrun]; rfl
  · have hge := grownCap_ge w l.length 0 e
    have hle := grownCap_le_maxLen w l.length 0 e (by rw [maxLen_eq]; omega)
    refine hw.more hw.1 ⟨one w.heap.size (false, _), .inr ⟨w.heap.size, [], List.replicate (grownCap w l.length 0 e - l.length) (.int .u8 0), rfl, ?_, hle, ⟨((Lib.bytesCells w e ⟨l.toArray⟩).size, (Lib.bytesCells w e ⟨l.toArray⟩).size + 1), ?_, rfl⟩⟩, ?_, ?_⟩ ?_
    · simp [Enc.all_length, Enc.u8]; omega
    · right
      simp only [Lib.bytesCells, Array.size_append, Array.size_map, Array.size_replicate, List.nil_append, List.length_append, List.length_replicate]
      simp [Enc.all_length, Enc.u8, ByteArray.size]
    · intro b y hb'
      obtain ⟨rfl, rfl⟩ := one_some hb'
      rw [Lib.bytesWorld_at_new]
      congr 2
      simp only [Lib.bytesCells, List.nil_append]
      apply Array.ext'
      simp [u8_all, str_size]
    · intro b y hb'
      obtain ⟨rfl, _⟩ := one_some hb'
      exact Nat.le_refl _
    · intro b hb'
      exact Lib.bytesWorld_at_old w e _ b hb'

/-! comparisons and sums -/
theorem run_binOp_int (op : BinOp) (t : TypeId) (x y : Operand) (k : IntKind) (a b : Int) (w : World) (h1 : op ≠ .shl) (h2 : op ≠ .shr) :
    ((do eqGuard op t x y (.int k a) (.int k b); binOp op t (.int k a) (.int k b) : Sem Value)).run P w =
      (match op with
        | .add | .sub | .mul => Op.intArith op k a b
        | .quo | .rem => Op.intDiv op k a b
        | .and | .or | .xor | .andNot => Op.intBits op k a b
        | _ => Op.intCmp op a b).run P w := by
  cases op <;> simp_all [eqGuard, binOp]
def cmpI : BinOp → Int → Int → Option Bool
  | .eql, a, b => some (a == b)
  | .neq, a, b => some (a != b)
  | .lss, a, b => some (decide (a < b))
  | .leq, a, b => some (decide (a ≤ b))
  | .gtr, a, b => some (decide (a > b))
  | .geq, a, b => some (decide (a ≥ b))
  | _, _, _ => none
theorem W.cmp {op : BinOp} {t t2 : TypeId} {x y : Operand} {kd : IntKind} {a b : Int} {p : Bool} (hx : ev xs x = some (.int kd a)) (hy : ev xs y = some (.int kd b)) (hc : cmpI op a b = some p) (hd : fits n d = true)
    (k : W P n o sr ops Q St rest (put d (.bool p) xs) hs) : W P n o sr ops Q St (⟨d, .binOp op t x y t2, ty, pos, af, none⟩ :: rest) xs hs :=
  W.val rfl (by simp only [kind]; first | (intro h; cases h; done) | (repeat' split) <;> (intro h; cases h)) hd (fun ac w ha => by
    have hr := run_binOp_int (P := P) op t x y kd a b w (by rintro rfl; cases hc) (by rintro rfl; cases hc)
    show ((do eqGuard op t x y (ac.eval x) (ac.eval y); binOp op t (ac.eval x) (ac.eval y) : Sem Value) >>= fun v => pure (Next.value v)).run P w = _
    rw [ha.ev hx, ha.ev hy, Sem.run_bind, hr]
    cases op <;> simp [cmpI] at hc <;> subst hc <;> simp [Op.intCmp]) k
/-- The two ways of a comparison. -/
theorem W.cmp2 {op : BinOp} {t t2 : TypeId} {x y : Operand} {kd : IntKind} {a b : Int} {p : Bool} (hx : ev xs x = some (.int kd a)) (hy : ev xs y = some (.int kd b)) (hc : cmpI op a b = some p) (hd : fits n d = true)
    (k1 : p = true → W P n o sr ops Q St rest (put d (.bool true) xs) hs) (k2 : p = false → W P n o sr ops Q St rest (put d (.bool false) xs) hs) : W P n o sr ops Q St (⟨d, .binOp op t x y t2, ty, pos, af, none⟩ :: rest) xs hs := by
  cases p with
  | true => exact W.cmp hx hy hc hd (k1 rfl)
  | false => exact W.cmp hx hy hc hd (k2 rfl)
def ariI : BinOp → IntKind → Int → Int → Option Int
  | .add, k, a, b => some (k.wrap (a + b))
  | .sub, k, a, b => some (k.wrap (a - b))
  | .mul, k, a, b => some (k.wrap (a * b))
  | _, _, _, _ => none
theorem W.ari {op : BinOp} {t t2 : TypeId} {x y : Operand} {kd : IntKind} {a b z : Int} (hx : ev xs x = some (.int kd a)) (hy : ev xs y = some (.int kd b)) (hc : ariI op kd a b = some z) (hd : fits n d = true)
    (k : W P n o sr ops Q St rest (put d (.int kd z) xs) hs) : W P n o sr ops Q St (⟨d, .binOp op t x y t2, ty, pos, af, none⟩ :: rest) xs hs :=
  W.val rfl (by simp only [kind]; first | (intro h; cases h; done) | (repeat' split) <;> (intro h; cases h)) hd (fun ac w ha => by
    have hr := run_binOp_int (P := P) op t x y kd a b w (by rintro rfl; cases hc) (by rintro rfl; cases hc)
    show ((do eqGuard op t x y (ac.eval x) (ac.eval y); binOp op t (ac.eval x) (ac.eval y) : Sem Value) >>= fun v => pure (Next.value v)).run P w = _
    rw [ha.ev hx, ha.ev hy, Sem.run_bind, hr]
    cases op <;> simp [ariI] at hc <;> subst hc <;> simp [Op.intArith]) k
theorem ari_add {a b z : Int} (h : z = a + b) (h1 : -9223372036854775808 ≤ z) (h2 : z ≤ 9223372036854775807) : ariI .add .i64 a b = some z := by
  subst h; simp only [ariI]; rw [IntWalk.i64_in _ ⟨h1, h2⟩]
theorem ari_sub {a b z : Int} (h : z = a - b) (h1 : -9223372036854775808 ≤ z) (h2 : z ≤ 9223372036854775807) : ariI .sub .i64 a b = some z := by
  subst h; simp only [ariI]; rw [IntWalk.i64_in _ ⟨h1, h2⟩]
theorem ari_mul {a b z : Int} (h : z = a * b) (h1 : -9223372036854775808 ≤ z) (h2 : z ≤ 9223372036854775807) : ariI .mul .i64 a b = some z := by
  subst h; simp only [ariI]; rw [IntWalk.i64_in _ ⟨h1, h2⟩]

/-! texts -/
def cmpS : BinOp → List UInt8 → List UInt8 → Option Bool
  | .eql, a, b => some (a == b)
  | .neq, a, b => some (a != b)
  | .lss, a, b => some (Op.bytesLess a b)
  | .leq, a, b => some (Op.bytesLess a b || (a == b))
  | .gtr, a, b => some (!(Op.bytesLess a b || (a == b)))
  | .geq, a, b => some (!(Op.bytesLess a b))
  | _, _, _ => none
theorem W.cmp_str {op : BinOp} {t t2 : TypeId} {x y : Operand} {a b : List UInt8} {p : Bool} (hx : ev xs x = some (str a)) (hy : ev xs y = some (str b)) (hc : cmpS op a b = some p) (hd : fits n d = true)
    (k : W P n o sr ops Q St rest (put d (.bool p) xs) hs) : W P n o sr ops Q St (⟨d, .binOp op t x y t2, ty, pos, af, none⟩ :: rest) xs hs :=
  W.val rfl (by simp only [kind]; first | (intro h; cases h; done) | (repeat' split) <;> (intro h; cases h)) hd (fun ac w ha => by
    show ((do eqGuard op t x y (ac.eval x) (ac.eval y); binOp op t (ac.eval x) (ac.eval y) : Sem Value) >>= fun v => pure (Next.value v)).run P w = _
    have h1 : (binOp op t (str a) (str b)).run P w = .ok (.bool p) w := by
      cases op <;> simp only [cmpS, Option.some.injEq, reduceCtorEq] at hc <;> subst hc <;> simp only [binOp, Op.stringOp, ByteArray.toList_mk, Sem.run_pure, bne]
    have h2 : (eqGuard op t x y (str a) (str b)).run P w = .ok () w := by
      unfold eqGuard; split <;> rfl
    rw [ha.ev hx, ha.ev hy, Sem.run_bind, Sem.run_bind, h2, Result.andThen_ok, h1]; rfl) k
theorem W.cmp_str2 {op : BinOp} {t t2 : TypeId} {x y : Operand} {a b : List UInt8} {p : Bool} (hx : ev xs x = some (str a)) (hy : ev xs y = some (str b)) (hc : cmpS op a b = some p) (hd : fits n d = true)
    (k1 : p = true → W P n o sr ops Q St rest (put d (.bool true) xs) hs) (k2 : p = false → W P n o sr ops Q St rest (put d (.bool false) xs) hs) : W P n o sr ops Q St (⟨d, .binOp op t x y t2, ty, pos, af, none⟩ :: rest) xs hs := by
  cases p with
  | true => exact W.cmp_str hx hy hc hd (k1 rfl)
  | false => exact W.cmp_str hx hy hc hd (k2 rfl)
theorem str_append (a b : List UInt8) : (⟨a.toArray⟩ : ByteArray) ++ ⟨b.toArray⟩ = ⟨(a ++ b).toArray⟩ := by
  apply ByteArray.ext
  simp
theorem W.concat {t t2 : TypeId} {x y : Operand} {a b : List UInt8} (hx : ev xs x = some (str a)) (hy : ev xs y = some (str b)) (hl : a.length + b.length ≤ 9223372036854775807) (hd : fits n d = true)
    (k : W P n o sr ops Q St rest (put d (str (a ++ b)) xs) hs) : W P n o sr ops Q St (⟨d, .binOp .add t x y t2, ty, pos, af, none⟩ :: rest) xs hs :=
  W.val rfl (by simp only [kind]; first | (intro h; cases h; done) | (repeat' split) <;> (intro h; cases h)) hd (fun ac w ha => by
    show ((do eqGuard .add t x y (ac.eval x) (ac.eval y); binOp .add t (ac.eval x) (ac.eval y) : Sem Value) >>= fun v => pure (Next.value v)).run P w = _
    rw [ha.ev hx, ha.ev hy, Sem.run_bind]
    have h6 : ¬ (9223372036854775807 < ((a.length : Int) + (b.length : Int))) := by omega
    simp [eqGuard, binOp, Op.stringOp, str, str_size, str_append, IntKind.max, IntKind.signed, IntKind.bits, h6]) k
theorem W.index_str {t : TypeId} {x ix : Operand} {s : List UInt8} {i : Int} {kd : IntKind} {c : UInt8} [ht : StrTy P t] (hx : ev xs x = some (str s)) (hi : ev xs ix = some (.int kd i)) (h0 : 0 ≤ i) (hc : s[i.toNat]? = some c)
    (hd : fits n d = true) (k : W P n o sr ops Q St rest (put d (.int .u8 (c.toNat : Int)) xs) hs) : W P n o sr ops Q St (⟨d, .index t x ix, ty, pos, af, none⟩ :: rest) xs hs :=
  W.val rfl (by simp only [kind]; first | (intro h; cases h; done) | (repeat' split) <;> (intro h; cases h)) hd (fun ac w ha => by
    show ((Instr.index t (ac.eval x) (ac.eval ix)) >>= fun v => pure (Next.value v)).run P w = _
    rw [ha.ev hx, ha.ev hi, Sem.run_bind]
    have h1 : (⟨s.toArray⟩ : ByteArray)[i.toNat]? = some c := by
      have hlt := (List.getElem?_eq_some_iff.1 hc).1
      rw [ByteArray.getElem?_lt' _ _ (by rw [str_size]; exact hlt)]
      have := (List.getElem?_eq_some_iff.1 hc).2
      simp only [Option.some.injEq]
      rw [← this]; rfl
    simp [Instr.index, asIntOf, run_underlying ht.und, str, h0, h1]) k
/-- s[a:b] of a text. -/
theorem W.slice_str {t : TypeId} {x : Operand} {lo hi : Option Operand} {s : List UInt8} {a b : Int} {ka kb : IntKind} [ht : StrTy P t] (hx : ev xs x = some (str s))
    (hlo : (lo = none ∧ a = 0) ∨ ∃ l, lo = some l ∧ ev xs l = some (.int ka a)) (hhi : (hi = none ∧ b = s.length) ∨ ∃ h, hi = some h ∧ ev xs h = some (.int kb b)) (h0 : 0 ≤ a) (h1 : a ≤ b) (h2 : b ≤ s.length) (hd : fits n d = true)
    (k : W P n o sr ops Q St rest (put d (str ((s.drop a.toNat).take (b.toNat - a.toNat))) xs) hs) : W P n o sr ops Q St (⟨d, .slice t x lo hi none, ty, pos, af, none⟩ :: rest) xs hs :=
  W.val rfl (by simp only [kind]; first | (intro h; cases h; done) | (repeat' split) <;> (intro h; cases h)) hd (fun ac w ha => by
    have hrun : (Instr.sliceAt t (str s) (lo.map ac.eval) (hi.map ac.eval) none).run P w = .ok (str ((s.drop a.toNat).take (b.toNat - a.toNat))) w := by
      have hb0 : 0 ≤ b := by omega
      have hbs : b ≤ ((⟨s.toArray⟩ : ByteArray).size : Int) := by rw [str_size]; exact h2
      have hbt : ((b.toNat : Nat) : Int) = b := Int.toNat_of_nonneg hb0
      rcases hlo with ⟨rfl, rfl⟩ | ⟨l, rfl, hl⟩ <;> rcases hhi with ⟨rfl, rfl⟩ | ⟨h, rfl, hh⟩
      · simp [Instr.sliceAt, Instr.slice, Instr.sliceBounds, run_underlying ht.und, str]
      · simp [Instr.sliceAt, Instr.slice, Instr.sliceBounds, Instr.sliceBound, asIntOf, run_underlying ht.und, str, ByteArray.extract_mk, ha.ev hh, hb0, hbs]
      · simp [Instr.sliceAt, Instr.slice, Instr.sliceBounds, Instr.sliceBound, asIntOf, run_underlying ht.und, str, ByteArray.extract_mk, str_size, ha.ev hl, h0, h1]
      · simp [Instr.sliceAt, Instr.slice, Instr.sliceBounds, Instr.sliceBound, asIntOf, run_underlying ht.und, str, ByteArray.extract_mk, ha.ev hl, ha.ev hh, h0, h1, hb0, hbs, hbt]
    show ((Instr.sliceAt t (ac.eval x) (lo.map ac.eval) (hi.map ac.eval) none) >>= fun v => pure (Next.value v)).run P w = _
    rw [ha.ev hx, Sem.run_bind, hrun]; rfl) k

/-! pointers, bools -/
class PtrTy (P : Program) (t : TypeId) : Prop where
  und : P.underlying t = some (.pointer (P.pointee t))
theorem W.eq_nil {t t2 : TypeId} {x y : Operand} {a : Option Addr} [ht : PtrTy P t] (hx : ev xs x = some (.pointer a)) (hy : ev xs y = some (.pointer none)) (hd : fits n d = true)
    (k : W P n o sr ops Q St rest (put d (.bool a.isNone) xs) hs) : W P n o sr ops Q St (⟨d, .binOp .eql t x y t2, ty, pos, af, none⟩ :: rest) xs hs :=
  W.val rfl (by simp only [kind]; first | (intro h; cases h; done) | (repeat' split) <;> (intro h; cases h)) hd (fun ac w ha => by
    have h1 := run_eql_pointer_nil (P := P) (w := w) t a ht.und
    show ((do eqGuard .eql t x y (ac.eval x) (ac.eval y); binOp .eql t (ac.eval x) (ac.eval y) : Sem Value) >>= fun v => pure (Next.value v)).run P w = _
    rw [ha.ev hx, ha.ev hy, Sem.run_bind, Sem.run_bind, show eqGuard .eql t x y (.pointer a) (.pointer none) = pure () from rfl, Sem.run_pure, Result.andThen_ok, h1]
    cases a <;> rfl) k
theorem W.ne_nil {t t2 : TypeId} {x y : Operand} {a : Option Addr} [ht : PtrTy P t] (hx : ev xs x = some (.pointer a)) (hy : ev xs y = some (.pointer none)) (hd : fits n d = true)
    (k : W P n o sr ops Q St rest (put d (.bool a.isSome) xs) hs) : W P n o sr ops Q St (⟨d, .binOp .neq t x y t2, ty, pos, af, none⟩ :: rest) xs hs :=
  W.val rfl (by simp only [kind]; first | (intro h; cases h; done) | (repeat' split) <;> (intro h; cases h)) hd (fun ac w ha => by
    have h1 := run_neq_pointer_nil (P := P) (w := w) t a ht.und
    show ((do eqGuard .neq t x y (ac.eval x) (ac.eval y); binOp .neq t (ac.eval x) (ac.eval y) : Sem Value) >>= fun v => pure (Next.value v)).run P w = _
    rw [ha.ev hx, ha.ev hy, Sem.run_bind, Sem.run_bind, show eqGuard .neq t x y (.pointer a) (.pointer none) = pure () from rfl, Sem.run_pure, Result.andThen_ok, h1]
    cases a <;> rfl) k
theorem W.not {x : Operand} {t : TypeId} {b : Bool} (hx : ev xs x = some (.bool b)) (hd : fits n d = true) (k : W P n o sr ops Q St rest (put d (.bool (!b)) xs) hs) : W P n o sr ops Q St (⟨d, .unOp .not t x, ty, pos, af, none⟩ :: rest) xs hs :=
  W.val rfl (by simp only [kind]; first | (intro h; cases h; done) | (repeat' split) <;> (intro h; cases h)) hd (fun ac w ha => by simp [execOp, Op.unary, ha.ev hx]) k
theorem W.extract {x : Operand} {i : Nat} {vs : Array Value} {v : Value} (hx : ev xs x = some (.tuple vs)) (hv : vs.toList[i]? = some v) (hd : fits n d = true) (k : W P n o sr ops Q St rest (put d v xs) hs) :
    W P n o sr ops Q St (⟨d, .extract x i, ty, pos, af, none⟩ :: rest) xs hs :=
  W.val rfl (by simp only [kind]; first | (intro h; cases h; done) | (repeat' split) <;> (intro h; cases h)) hd (fun ac w ha => by rw [Array.getElem?_toList] at hv; simp [execOp, Instr.extract, ha.ev hx, hv]) k
theorem W.max2 {t u : TypeId} {x y : Operand} {kd : IntKind} {a b : Int} (hx : ev xs x = some (.int kd a)) (hy : ev xs y = some (.int kd b)) (hd : fits n d = true)
    (k : W P n o sr ops Q St rest (put d (.int kd (max a b)) xs) hs) : W P n o sr ops Q St (⟨d, .call { callee := .builtin .max, args := #[x, y], argTypes := #[t, u] }, ty, pos, af, none⟩ :: rest) xs hs :=
  W.val rfl (by simp only [kind]; first | (intro h; cases h; done) | (repeat' split) <;> (intro h; cases h)) hd (fun ac w ha => by
    have h1 : (if b > a then b else a) = max a b := by rw [Int.max_def]; split <;> split <;> omega
    simp only [execOp, resolve, invoke, builtin, Sem.run_bind, Sem.run_pure, Result.andThen_ok, List.map_toArray, List.map_cons, List.map_nil, ha.ev hx, ha.ev hy, Builtin.max_, List.foldlM_cons, List.foldlM_nil, Builtin.max2, h1]) k
theorem W.min2 {t u : TypeId} {x y : Operand} {kd : IntKind} {a b : Int} (hx : ev xs x = some (.int kd a)) (hy : ev xs y = some (.int kd b)) (hd : fits n d = true)
    (k : W P n o sr ops Q St rest (put d (.int kd (min a b)) xs) hs) : W P n o sr ops Q St (⟨d, .call { callee := .builtin .min, args := #[x, y], argTypes := #[t, u] }, ty, pos, af, none⟩ :: rest) xs hs :=
  W.val rfl (by simp only [kind]; first | (intro h; cases h; done) | (repeat' split) <;> (intro h; cases h)) hd (fun ac w ha => by
    have h1 : (if b < a then b else a) = min a b := by rw [Int.min_def]; split <;> split <;> omega
    simp only [execOp, resolve, invoke, builtin, Sem.run_bind, Sem.run_pure, Result.andThen_ok, List.map_toArray, List.map_cons, List.map_nil, ha.ev hx, ha.ev hy, Builtin.min_, List.foldlM_cons, List.foldlM_nil, Builtin.min2, h1]) k
theorem W.conv_int {src dst : TypeId} {x : Operand} {kd k2 : IntKind} {a b : Int} {u : TypeDesc} [ht : IntTy P dst k2] (hs0 : P.underlying src = some u) (hx : ev xs x = some (.int kd a)) (hb : k2.wrap a = b) (hd : fits n d = true)
    (k : W P n o sr ops Q St rest (put d (.int k2 b) xs) hs) : W P n o sr ops Q St (⟨d, .convert src dst x, ty, pos, af, none⟩ :: rest) xs hs :=
  W.val rfl (by simp [kind, ht.und]) hd (fun ac w ha => by
    show ((convert src dst (ac.eval x)) >>= fun v => pure (Next.value v)).run P w = _
    rw [ha.ev hx, Sem.run_bind]
    simp [convert, run_underlying hs0, run_underlying ht.und, Conv.intToInt, hb]) k

/-! pieces of slices -/
theorem run_sliceAt_to {t e sz by_ : Nat} [ht : SliceTy P t e sz by_] {A : Option Addr} {m c : Nat} {kd : IntKind} {b : Int} (h0 : 0 ≤ b) (h1 : b ≤ (c : Int)) (w : World) :
    (Instr.sliceAt t (.slice A m c) none (some (.int kd b)) none).run P w = .ok (.slice A b.toNat c) w := by
  obtain ⟨inf, z, hi2, hsz, _⟩ := ht.info
  have h3 : A.map (fun a => a.add 0) = A := by cases A <;> simp [Addr.add]
  simp [Instr.sliceAt, Instr.slice, Instr.sliceBounds, Instr.sliceBound, asIntOf, run_underlying ht.und, h0, h1, sizeOf, typeInfo, hi2, h3]
/-- s[:b] where there are so many. -/
theorem W.slice_to {α : Type} {En : Enc α} {t e by_ : Nat} {x hi : Operand} {A : Option Addr} {c : Nat} {l : List α} {kd : IntKind} {b : Int} {r : List HProp} [ht : SliceTy P t e En.sz by_]
    (hx : ev xs x = some (.slice A l.length c)) (hh : ev xs hi = some (.int kd b)) (hf : Find hs (sl En e A c l) r) (h0 : 0 ≤ b) (h1 : b ≤ l.length) (hd : fits n d = true)
    (k : W P n o sr ops Q St rest (put d (.slice A (l.take b.toNat).length c) xs) (sl En e A c (l.take b.toNat) :: r)) : W P n o sr ops Q St (⟨d, .slice t x none (some hi) none, ty, pos, af, none⟩ :: rest) xs hs := by
  refine W.lift hf.lift ?_
  refine W.fact (φ := l.length ≤ c) (fun w hw => hw.sl_cap.1) fun hcap => ?_
  refine W.val rfl (by simp only [kind]; first | (intro h; cases h; done) | (repeat' split) <;> (intro h; cases h)) hd (v := .slice A (l.take b.toNat).length c) (fun ac w ha => ?_) ?_
  · show ((Instr.sliceAt t (ac.eval x) none (some (ac.eval hi)) none) >>= fun v => pure (Next.value v)).run P w = _
    rw [ha.ev hx, ha.ev hh, Sem.run_bind, run_sliceAt_to h0 (by omega)]
    have : (l.take b.toNat).length = b.toNat := by rw [List.length_take]; omega
    rw [this]; rfl
  · constructor; intro a w ha hw
    refine k a w ha ?_
    refine hw.weaken ?_
    intro f hf
    rcases hf with ⟨a1, b1, c1, d1⟩ | ⟨g, pre, spare, hA, hl, hc, hb⟩
    · exact .inl ⟨a1, b1, (by rw [c1]; exact List.take_nil), d1⟩
    · refine .inr ⟨g, pre, En.all (l.drop b.toNat) ++ spare, hA, ?_, hc, ?_⟩
      · have := En.all_append (l.take b.toNat) (l.drop b.toNat)
        rw [List.take_append_drop] at this
        rw [this] at hl
        simp only [List.length_append] at hl ⊢; omega
      · have := En.all_append (l.take b.toNat) (l.drop b.toNat)
        rw [List.take_append_drop] at this
        rw [this] at hb
        simpa using hb
theorem all_drop {α : Type} (En : Enc α) (l : List α) (k : Nat) : En.all (l.drop k) = (En.all l).drop (k * En.sz) := by
  induction k generalizing l with
  | zero => simp
  | succ k ih =>
    cases l with
    | nil => simp [Enc.all]
    | cons x l =>
      rw [List.drop_succ_cons, ih]
      simp only [Enc.all, List.flatMap_cons]
      rw [Nat.add_mul, Nat.one_mul, Nat.add_comm, ← List.drop_drop, ← En.len x, List.drop_left]
theorem all_take_get {α : Type} (En : Enc α) (l : List α) (k i : Nat) (v : Value) (h : (En.all (l.take k))[i]? = some v) : (En.all l)[i]? = some v := by
  have h1 := En.all_append (l.take k) (l.drop k)
  rw [List.take_append_drop] at h1
  rw [h1, List.getElem?_append_left (List.getElem?_eq_some_iff.1 h).1]; exact h
theorem reads_sub {α : Type} {En : Enc α} {A : Option Addr} {c : Nat} {l : List α} {R : HProp} (hR : Reads R En A l) (hc : l.length ≤ c) (a b : Nat) (hb : b ≤ l.length) :
    Reads R En (if c = a then A else A.map (·.add (a * En.sz))) ((l.drop a).take (b - a)) := by
  intro f w hf hw
  by_cases he : (l.drop a).take (b - a) = []
  · exact .inl he
  right
  have hab : a < b := by
    rcases Nat.lt_or_ge a b with h | h
    · exact h
    · exfalso; apply he; rw [show b - a = 0 from by omega, List.take_zero]
  rcases hR f w hf hw with h0 | ⟨g, off, hA, hcell⟩
  · exfalso; apply he; subst h0; simp
  · refine ⟨g, off + a * En.sz, ?_, fun i v hv => ?_⟩
    · rw [if_neg (by omega), hA]; simp [add_off]
    · have h1 := all_take_get En _ _ i v hv
      rw [all_drop, List.getElem?_drop] at h1
      rw [Nat.add_assoc]; exact hcell _ _ h1
/-- s[lo:hi] of a slice that is only read. -/
theorem W.slice_ro {α : Type} {En : Enc α} {t e by_ : Nat} {x : Operand} {lo hi : Option Operand} {A : Option Addr} {c : Nat} {l : List α} {ka kb : IntKind} {a b : Int} {R : HProp} [ht : SliceTy P t e En.sz by_]
    (hx : ev xs x = some (.slice A l.length c)) (hlo : (lo = none ∧ a = 0) ∨ ∃ q, lo = some q ∧ ev xs q = some (.int ka a)) (hhi : (hi = none ∧ b = l.length) ∨ ∃ q, hi = some q ∧ ev xs q = some (.int kb b))
    (hR : Reads R En A l) (hc : l.length ≤ c) (h0 : 0 ≤ a) (h1 : a ≤ b) (h2 : b ≤ l.length) (hd : fits n d = true)
    (k : ∀ A' c', ((l.drop a.toNat).take (b.toNat - a.toNat)).length ≤ c' → Reads R En A' ((l.drop a.toNat).take (b.toNat - a.toNat)) → W P n o sr ops Q St rest (put d (.slice A' ((l.drop a.toNat).take (b.toNat - a.toNat)).length c') xs) hs) :
    W P n o sr ops Q St (⟨d, .slice t x lo hi none, ty, pos, af, none⟩ :: rest) xs hs := by
  have hlen : ((l.drop a.toNat).take (b.toNat - a.toNat)).length = b.toNat - a.toNat := by rw [List.length_take, List.length_drop]; omega
  refine W.val rfl (by simp only [kind]; first | (intro h; cases h; done) | (repeat' split) <;> (intro h; cases h)) hd (fun ac w ha => ?_) (k (if c = a.toNat then A else A.map (·.add (a.toNat * En.sz))) (c - a.toNat) (by omega) (reads_sub hR hc a.toNat b.toNat (by omega)))
  rw [hlen]
  have hrun : (Instr.sliceAt t (.slice A l.length c) (lo.map ac.eval) (hi.map ac.eval) none).run P w = .ok (.slice (if c = a.toNat then A else A.map (·.add (a.toNat * En.sz))) (b.toNat - a.toNat) (c - a.toNat)) w := by
    obtain ⟨inf, z, hi2, hsz, _⟩ := ht.info
    have hb0 : 0 ≤ b := by omega
    have hbc : b ≤ (c : Int) := by omega
    have hbt : ((b.toNat : Nat) : Int) = b := Int.toNat_of_nonneg hb0
    have hA0 : A.map (fun a => a.add 0) = A := by cases A <;> simp [Addr.add]
    rcases hlo with ⟨rfl, rfl⟩ | ⟨q, rfl, hl⟩ <;> rcases hhi with ⟨rfl, rfl⟩ | ⟨q', rfl, hh⟩
    · simp [Instr.sliceAt, Instr.slice, Instr.sliceBounds, run_underlying ht.und, sizeOf, typeInfo, hi2, hA0]
    · simp [Instr.sliceAt, Instr.slice, Instr.sliceBounds, Instr.sliceBound, asIntOf, run_underlying ht.und, sizeOf, typeInfo, hi2, hA0, ha.ev hh, hb0, hbc]
    · simp [Instr.sliceAt, Instr.slice, Instr.sliceBounds, Instr.sliceBound, asIntOf, run_underlying ht.und, sizeOf, typeInfo, hi2, hsz, ha.ev hl, h0, h1]
    · simp [Instr.sliceAt, Instr.slice, Instr.sliceBounds, Instr.sliceBound, asIntOf, run_underlying ht.und, sizeOf, typeInfo, hi2, hsz, ha.ev hl, ha.ev hh, h0, h1, hb0, hbc, hbt]
  show ((Instr.sliceAt t (ac.eval x) (lo.map ac.eval) (hi.map ac.eval) none) >>= fun v => pure (Next.value v)).run P w = _
  rw [ha.ev hx, Sem.run_bind, hrun]; rfl

/-! structs written out -/
class StructTy (P : Program) (t : TypeId) (z : outParam (List Value)) (offs : outParam (List (Nat × Nat))) : Prop where
  run : ∀ (parts : Array (Nat × Value)) (cells : Array Value) (w : World), Instr.fill (offs[·]?) z.toArray parts.toList = some cells → (Instr.build t parts).run P w = .ok (.agg cells) w
def structB (P : Program) (t : TypeId) : Option (List Value × List (Nat × Nat)) :=
  match P.underlying t with
  | some (.struct fs) => match (P.info? t).bind (·.zero) with
    | some z => ((fs.toList.mapM (m := Option) fun f => (P.info? f.type).map fun i => (f.offset, i.size))).map fun offs => (z.cells.toList, offs)
    | none => none
  | _ => none
theorem run_places (P : Program) (w : World) : ∀ (fs : List Field) (offs : List (Nat × Nat)), fs.mapM (m := Option) (fun f => (P.info? f.type).map fun i => (f.offset, i.size)) = some offs →
    (fs.mapM (m := Sem) fun f => do pure (f.offset, ← sizeOf f.type)).run P w = .ok offs w := by
  intro fs
  induction fs with
  | nil => intro offs h; simp at h; subst h; rfl
  | cons f fs ih =>
    intro offs h
    rw [List.mapM_cons] at h ⊢
    cases hi : P.info? f.type with
    | none => simp [hi] at h
    | some i =>
      cases hr : fs.mapM (m := Option) (fun f => (P.info? f.type).map fun i => (f.offset, i.size)) with
      | none => simp [hi, hr] at h
      | some r =>
        simp [hi, hr] at h
        subst h
        have h1 := ih r hr
        simp only [Sem.run_bind, sizeOf, typeInfo, run_program, hi, Sem.run_pure, Result.andThen_ok] at h1 ⊢
        rw [h1]; rfl
theorem StructTy.of {t : TypeId} {z : List Value} {offs : List (Nat × Nat)} (h : structB P t = some (z, offs)) : StructTy P t z offs := by
  refine ⟨fun parts cells w hf => ?_⟩
  unfold structB at h
  split at h
  · rename_i fs hu
    split at h
    · rename_i zv hz
      cases hm : fs.toList.mapM (m := Option) (fun f => (P.info? f.type).map fun i => (f.offset, i.size)) with
      | none => rw [hm] at h; cases h
      | some os =>
        rw [hm] at h
        simp only [Option.map_some, Option.some.injEq, Prod.mk.injEq] at h
        obtain ⟨rfl, rfl⟩ := h
        have h1 := run_places P w fs.toList os hm
        have hz2 : (zeroValue t).run P w = .ok zv w := by
          cases hi : P.info? t with
          | none => rw [hi] at hz; cases hz
          | some i => rw [hi] at hz; simp only [Option.bind_some] at hz; simp [zeroValue, typeInfo, hi, hz]
        have h2 : (fs.mapM (m := Sem) fun f => do pure (f.offset, ← sizeOf f.type)).run P w = .ok os.toArray w := by
          rw [Array.mapM_eq_mapM_toList]
          simp only [Sem.run_map, h1, Result.andThen_ok]
        simp only [Array.toArray_toList] at hf
        have hf' : Instr.fill (os.toArray[·]?) zv.cells parts.toList = some cells := by simpa using hf
        simp only [Instr.build, Sem.run_bind, hz2, Result.andThen_ok, run_underlying hu, h2, hf', Sem.run_pure]
    · cases h
  · cases h
theorem W.build {t : TypeId} {parts : Array (Nat × Operand)} {es : List (Nat × Value)} {z : List Value} {offs : List (Nat × Nat)} {cells : Array Value} [ht : StructTy P t z offs]
    (hp : parts.toList.map (fun p => (p.1, ev xs p.2)) = es.map (fun p => (p.1, some p.2))) (hf : Instr.fill (offs[·]?) z.toArray es = some cells) (hd : fits n d = true)
    (k : W P n o sr ops Q St rest (put d (.agg cells) xs) hs) : W P n o sr ops Q St (⟨d, .build t parts, ty, pos, af, none⟩ :: rest) xs hs := by
  refine W.val rfl (by simp [kind]) hd (fun a w ha => ?_) k
  have hparts : (parts.map fun p => (p.1, a.eval p.2)).toList = es := by
    have key : ∀ (ps : List (Nat × Operand)) (es : List (Nat × Value)), ps.map (fun p => (p.1, ev xs p.2)) = es.map (fun p => (p.1, some p.2)) → ps.map (fun p => (p.1, a.eval p.2)) = es := by
      intro ps
      induction ps with
      | nil => intro es h; cases es with
        | nil => rfl
        | cons => cases h
      | cons p ps ih => intro es h; cases es with
        | nil => cases h
        | cons q es =>
          simp only [List.map_cons, List.cons.injEq, Prod.mk.injEq] at h ⊢
          exact ⟨by rw [Prod.mk.injEq]; exact ⟨h.1.1, ha.ev h.1.2⟩, ih es h.2⟩
    simpa using key _ _ hp
  show ((Instr.build t (parts.map fun p => (p.1, a.eval p.2))) >>= fun v => pure (Next.value v)).run P w = _
  rw [Sem.run_bind, ht.run _ cells w (by rw [hparts]; exact hf)]; rfl
end
end Go.SL
