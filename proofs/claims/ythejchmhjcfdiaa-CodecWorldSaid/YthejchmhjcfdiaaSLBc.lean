/-
  []byte("..") of a constant text.
-/
import Derived.Test.YthejchmhjcfdiaaSLApp
namespace Go.SL
set_option linter.unusedVariables false
theorem Sat.freeze {o : Outer} {w : World} {b : Nat} {T : TypeId} {cs : List Value} {r : List HProp} (h : Sat o w (blk b T cs :: r)) : Sat o (w.freeze ⟨b, cs.length, none⟩ 1) (blk b T cs :: r) := by
  refine h.turn h.1 ?_
  rintro f ⟨⟨lo, hi⟩, hfr, rfl⟩ hf
  have hb := hf b _ (one_self _ _)
  refine ⟨one b (false, .cells cs.toArray T (if lo == hi then (cs.length, cs.length + 1) else (min lo cs.length, max hi (cs.length + 1)))), ⟨_, ?_, rfl⟩, fun k x hk => ?_, fun k x hk => ?_, fun k hk hne => ?_⟩
  · right
    split
    · exact Nat.le_refl _
    · rcases hfr with e | e
      · cases e; simp at *
      · simp only at e ⊢; omega
  · obtain ⟨rfl, rfl⟩ := one_some hk
    simp only [World.freeze, Nat.one_ne_zero, if_false, Array.getElem?_modify, if_true, hb, Option.map_some]
  · obtain ⟨rfl, _⟩ := one_some hk
    exact .inl ⟨_, one_self _ _⟩
  · have hkb : b ≠ k := fun e => by subst e; exact hne _ (one_self _ _)
    simp only [World.freeze, Nat.one_ne_zero, if_false, Array.getElem?_modify, hkb]
section
variable {P : Program} {n : Nat} {o : Outer} {sr : List Tmp} {ops : Array Oper} {Q : Post} {St : List HProp} {rest : List Oper} {xs : Env} {hs : List HProp}
variable {d : Option Tmp} {ty : TypeId} {pos : String} {af : Array Edge}
theorem W.cvb {α : Type} {En : Enc α} {t e g off m c : Nat} {x : Operand} {l : List α} {r : List HProp} [ht : BytesTy P t e] (hx : ev xs x = some (.slice (some ⟨g, off, none⟩) m c)) (hf : Find hs (sl En e (some ⟨g, off, none⟩) c l) r) (hd : fits n d = true) (hI : Incl St r)
    (k : W P n o sr ops Q St rest (put d (.slice (some ⟨g, off, none⟩) m c) xs) (sl En e (some ⟨g, off, none⟩) c l :: r)) : W P n o sr ops Q St (⟨d, .convert t t x, ty, pos, af, none⟩ :: rest) xs hs := by
  refine W.op rfl (by simp [kind, ht.und]) hd fun a w ha hw => ?_
  rcases (hw.lift hf.lift).sl_open with ⟨hn, _⟩ | ⟨g', pre, spare, hA, hl, hc, hsat⟩
  · cases hn
  simp only [Option.some.injEq, Addr.mk.injEq, and_true] at hA
  obtain ⟨rfl, rfl⟩ := hA
  obtain ⟨fr, _, hb⟩ := hsat.blk_at
  have hsh : w.shape? g = some (e, (pre ++ En.all l ++ spare).length) := by
    unfold World.shape?
    rw [hb]; simp
  refine ⟨_, w.freeze ⟨g, (pre ++ En.all l ++ spare).length, none⟩ 1, _, ?_, hsat.freeze.sl_close hl hc, hI.there, k⟩
  show ((convert t t (a.eval x)) >>= fun v => pure (Next.value v)).run P w = _
  rw [ha.ev hx, Sem.run_bind]
  simp [convert, run_underlying ht.und, run_underlying ht.elem, markStringish, hsh]
end
end Go.SL
