/-
  append of a string's bytes.
-/
import Derived.Test.YtlibnpdbcjgegaaGreatSLGo
namespace Go.SL
set_option linter.unusedVariables false
set_option linter.unusedSimpArgs false
theorem lenOf_str (l : List UInt8) : Builtin.lenOf (str l) = pure l.length := by
  show pure (ByteArray.size _) = _
  rw [str_size]
theorem firstCells_str {P : Program} (l : List UInt8) (w : World) : (Builtin.firstCells 1 l.length (str l)).run P w = .ok (Enc.u8.all l).toArray w := by
  have h : ((⟨l.toArray⟩ : ByteArray).extract 0 l.length) = ⟨l.toArray⟩ := by
    rw [← str_size l]; exact ByteArray.extract_zero_size
  show Result.ok (((⟨l.toArray⟩ : ByteArray).extract 0 l.length).data.map fun b => Value.int .u8 b.toNat) w = _
  rw [h, u8_all]; simp
theorem Sat.append_str {P : Program} {t t2 e bytes : Nat} [ht : SliceTy P t e Enc.u8.sz bytes] [hs2 : StrTy P t2] {o : Outer} {w : World} {A : Option Addr} {c : Nat} {xs : List UInt8} {r : List HProp}
    (h : Sat o w (sl Enc.u8 e A c xs :: r)) (news : List UInt8)
    (hb : (xs.length + news.length) * bytes ≤ 140737488355328) (hm : xs.length + news.length ≤ 140737488355328) (ty : TypeId) :
    ∃ A' c' w', (Builtin.append_ #[t, t2] ty #[.slice A xs.length c, str news]).run P w = .ok (.slice A' (xs.length + news.length) c') w' ∧
      Sat o w' (sl Enc.u8 e A' c' (xs ++ news) :: r) := by
  have hx : ∀ w' : World, w'.heap = w.heap → (Builtin.firstCells Enc.u8.sz news.length (str news)).run P w' = .ok (Enc.u8.all news).toArray w' := fun w' _ => firstCells_str news w'
  have hln := lenOf_str news
  have hund2 := hs2.und
  obtain ⟨i, z, hi, hsz, hby, hz, hzs⟩ := ht.info
  have hund := ht.und
  subst hby
  have hcap := h.sl_cap
  have hnl := Enc.u8.all_length news
  have hxl := Enc.u8.all_length xs
  by_cases hroom : xs.length + news.length ≤ c
  · rcases h.sl_open with ⟨hA, hc0, hxs, hr⟩ | ⟨g, pre, spare, hA, hl, hc, hr⟩
    · subst hA hc0 hxs
      have hn0 : news = [] := List.eq_nil_of_length_eq_zero (by simpa using hroom)
      subst hn0
      refine ⟨none, 0, w, ?_, hr.lift (Lift.emp (sl_emp Enc.u8 e) _)⟩
      have := hx w rfl
      simp only [List.length_nil] at this hln
      simp [Builtin.append_, run_underlying hund, run_underlying hund2, hln, sizeOf, typeInfo, hi, hsz, this]
    · subst hA
      have hfit : news.length * Enc.u8.sz ≤ spare.length := by
        have := Nat.mul_le_mul_right Enc.u8.sz hroom
        rw [Nat.add_mul] at this; omega
      obtain ⟨w', hrun, hs⟩ := Sat.storeCells (P := P) (off := pre.length + (Enc.u8.all xs).length) (Enc.u8.all news) 0 _ w hr (by simp only [List.length_append]; omega) (Enc.u8.all_one news)
      refine ⟨some ⟨g, pre.length, none⟩, c, w', ?_, ?_⟩
      · rw [hxl, show Enc.u8.sz = 1 from rfl, Nat.mul_one] at hrun
        simp [Builtin.append_, run_underlying hund, run_underlying hund2, hln, sizeOf, typeInfo, hi, hsz, hroom, hx w rfl, add_off, hrun]
      · rw [Nat.add_zero] at hs
        have e1 : pre ++ Enc.u8.all xs ++ spare = (pre ++ Enc.u8.all xs) ++ spare.take (Enc.u8.all news).length ++ spare.drop (Enc.u8.all news).length := by
          rw [List.append_assoc (pre ++ Enc.u8.all xs), List.take_append_drop]
        rw [e1] at hs
        have e2 := setAll_mid (pre ++ Enc.u8.all xs) (spare.take (Enc.u8.all news).length) (spare.drop (Enc.u8.all news).length) (Enc.u8.all news) (by rw [List.length_take]; omega)
        rw [List.length_append] at e2
        rw [e2] at hs
        rw [show pre ++ Enc.u8.all xs ++ Enc.u8.all news ++ spare.drop (Enc.u8.all news).length = pre ++ Enc.u8.all (xs ++ news) ++ spare.drop (Enc.u8.all news).length from by rw [Enc.u8.all_append]; simp] at hs
        refine hs.sl_close ?_ hc
        rw [Enc.u8.all_append, List.length_append, List.length_drop]; omega
  · have hold : (Builtin.firstCells Enc.u8.sz xs.length (.slice A xs.length c)).run P w.drew = .ok (Enc.u8.all xs).toArray w.drew := by
      rcases (Sat.drew h).sl_open with ⟨hA, hc0, hxs, hr⟩ | ⟨g, pre, spare, hA, hl, hc, hr⟩
      · subst hA hc0 hxs; rfl
      · subst hA
        simp only [Builtin.firstCells]
        rw [← hxl]
        refine run_loadCells g pre.length _ (fun j v hj => hr.blk_cell ?_)
        have hi := (List.getElem?_eq_some_iff.1 hj).1
        rw [List.append_assoc, List.getElem?_append_right (by omega), show pre.length + j - pre.length = j from by omega, List.getElem?_append_left hi, hj]
    have hnew := hx w.drew rfl
    have hfitg := growslice_fits (old := c) (need := xs.length + news.length) (bytes := i.bytes) (by omega) hb
    have h63' : ¬ (9223372036854775807 < ((xs.length : Int) + (news.length : Int))) := by omega
    have h48' : ¬ (281474976710656 < Builtin.nextslicecap (xs.length + news.length) c * i.bytes) := by omega
    have hge := grownCap_ge w (xs.length + news.length) c e
    have hle := grownCap_le_maxLen w (xs.length + news.length) c e (by rw [maxLen_eq]; omega)
    refine ⟨some ⟨w.heap.size, 0, none⟩, grownCap w (xs.length + news.length) c e,
      w.drew.alloc (.cells ([] ++ Enc.u8.all (xs ++ news) ++ (Builtin.zeroCells z.cells (grownCap w (xs.length + news.length) c e - (xs.length + news.length))).toList).toArray e), ?_, ?_⟩
    · simp [Builtin.append_, run_underlying hund, run_underlying hund2, hln, sizeOf, typeInfo, zeroValue, hi, hsz, hz, hroom, h63', h48', Question.forced, hnew, hold, newRow, grownCap]
      congr 2
      apply Array.ext'
      simp [List.append_assoc, Enc.u8.all_append]
    · have h5 := ((Sat.drew h).lift (Lift.drop _ _)).alloc e ([] ++ Enc.u8.all (xs ++ news) ++ (Builtin.zeroCells z.cells (grownCap w (xs.length + news.length) c e - (xs.length + news.length))).toList)
      refine Sat.sl_close (pre := []) h5 ?_ hle
      rw [zeroCells_length, hzs, Enc.u8.all_length, ← Nat.add_mul, List.length_append]
      congr 1; omega
section
variable {P : Program} {n : Nat} {o : Outer} {sr : List Tmp} {ops : Array Oper} {Q : Post} {St : List HProp} {rest : List Oper} {xs : Env} {hs : List HProp}
variable {d : Option Tmp} {ty : TypeId} {pos : String} {af : Array Edge}
theorem W.app_str {t t2 e by_ c m : Nat} {A : Option Addr} {l s : List UInt8} {r : List HProp} {x y : Operand} [ht : SliceTy P t e Enc.u8.sz by_] [ht2 : StrTy P t2] (hx : ev xs x = some (.slice A m c)) (hy : ev xs y = some (str s))
    (hf : Find hs (sl Enc.u8 e A c l) r) (hm : m = l.length) (hb : (l.length + s.length) * by_ ≤ 140737488355328) (hc : l.length + s.length ≤ 140737488355328) (hd : fits n d = true) (hI : Incl St r)
    (k : ∀ A' c', W P n o sr ops Q St rest (put d (.slice A' (l ++ s).length c') xs) (sl Enc.u8 e A' c' (l ++ s) :: r)) :
    W P n o sr ops Q St (⟨d, .call { callee := .builtin .append, args := #[x, y], argTypes := #[t, t2] }, ty, pos, af, none⟩ :: rest) xs hs :=
  W.op rfl rfl hd fun a w ha hw => by
    subst hm
    obtain ⟨A', c', w', hr, hs'⟩ := Sat.append_str (P := P) (t := t) (t2 := t2) (hw.lift hf.lift) s hb hc ty
    refine ⟨_, w', _, ?_, hs', hI.there, List.length_append ▸ k A' c'⟩
    simp only [Go.execOp, Go.resolve, Go.invoke, Go.builtin, Sem.run_bind, Sem.run_pure, Result.andThen_ok, List.map_toArray, List.map_cons, List.map_nil, ha.ev hx, ha.ev hy, hr]
/-- a shift to the right of a number of either sign. -/
theorem W.shri {t t2 : TypeId} {x y : Operand} {kd ky : IntKind} {m : Nat} {a' y' z : Int} (hx : ev xs x = some (.int kd a')) (hy : ev xs y = some (.int ky y')) (hm : y' = (m : Int)) (hlt : m ≤ kd.bits) (hz : a' / 2 ^ m = z) (hd : fits n d = true)
    (k : W P n o sr ops Q St rest (put d (.int kd z) xs) hs) : W P n o sr ops Q St (⟨d, .binOp .shr t x y t2, ty, pos, af, none⟩ :: rest) xs hs :=
  W.val rfl kind_cmp hd (fun ac w hac => by
    subst hm hz
    show ((do eqGuard .shr t x y (ac.eval x) (ac.eval y); binOp .shr t (ac.eval x) (ac.eval y) : Sem Value) >>= fun v => pure (Next.value v)).run P w = _
    rw [hac.ev hx, hac.ev hy, Sem.run_bind]
    have h1 : ¬ ((m : Int) < 0) := by omega
    have h2 : a'.fdiv (2 ^ m) = a' / 2 ^ m := Int.fdiv_eq_ediv_of_nonneg _ (Int.le_of_lt (Int.pow_pos (by decide)))
    simp [eqGuard, binOp, Op.shift, h1, Nat.min_eq_left hlt, h2]) k
end
end Go.SL
