/-
  Parts of the memory joined, opened, held twice.
-/
import Derived.Test.YtlibnpdbcjgegaaGreatSLIface
import Derived.KernelRfl
namespace Go.SL
set_option linter.unusedVariables false
set_option linter.unusedSimpArgs false
/-- Two parts, or what of them is never written any more, as one. -/
theorem Sat.merge {o : Outer} {w : World} {A B C : HProp} {r : List HProp} (h : Sat o w (A :: B :: r))
    (k : ∀ f g, A f → B g → Compat f g → ∃ h, C h ∧ ∀ b x, h b = some x → ∃ y, (f b = some y ∨ g b = some y) ∧ x.2 = y.2 ∧ (y.1 = true → x.1 = true)) : Sat o w (C :: r) := by
  obtain ⟨ho, l, h1, h2, h3⟩ := h
  match l, h1 with
  | p :: q :: l, h1 =>
    simp only [List.map_cons, List.cons.injEq] at h1
    simp only [List.pairwise_cons, List.mem_cons, forall_eq_or_imp] at h3
    obtain ⟨hp1, hp2⟩ := h2 p (by simp)
    obtain ⟨hq1, hq2⟩ := h2 q (by simp)
    obtain ⟨f, hC, hf⟩ := k p.2 q.2 (h1.1 ▸ hp1) (h1.2.1 ▸ hq1) h3.1.1
    refine ⟨ho, (C, f) :: l, by simp [h1.2.2], fun s hs => ?_, ?_⟩
    · rcases List.mem_cons.1 hs with e | hs
      · subst e
        refine ⟨hC, fun b x hb => ?_⟩
        obtain ⟨y, hy, hxy, _⟩ := hf b x hb
        rw [hxy]; exact hy.elim (hp2 b y) (hq2 b y)
      · exact h2 s (by simp [hs])
    · rw [List.pairwise_cons]
      refine ⟨fun s hs b x z hx hz => ?_, h3.2.2⟩
      obtain ⟨y, hy, hxy, hfr⟩ := hf b x hx
      have : y.1 = true ∧ y = z := hy.elim (fun hy => h3.1.2 s hs b y z hy hz) (fun hy => h3.2.1 s hs b y z hy hz)
      exact ⟨hfr this.1, by rw [← this.2]; exact Prod.ext ((hfr this.1).trans this.1.symm) hxy⟩
def Fro (f : Hp) : Prop := ∀ b x, f b = some x → x.1 = true
/-- Of what holds A something more is known. -/
theorem Sat.opened {o : Outer} {w : World} {α : Type} {A : HProp} {B : α → HProp} {r : List HProp} (h : Sat o w (A :: r)) (k : ∀ f, A f → ∃ x, B x f) : ∃ x, Sat o w (B x :: r) := by
  obtain ⟨ho, l, h1, h2, h3⟩ := h
  match l, h1 with
  | p :: l, h1 =>
    simp only [List.map_cons, List.cons.injEq] at h1
    have hp := (h2 p List.mem_cons_self)
    obtain ⟨x, hx⟩ := k p.2 (h1.1 ▸ hp.1)
    refine ⟨x, ho, (B x, p.2) :: l, by simp [h1.2], fun q hq => ?_, ?_⟩
    · rcases List.mem_cons.1 hq with e | hq
      · subst e; exact ⟨hx, hp.2⟩
      · exact h2 q (List.mem_cons_of_mem _ hq)
    · rw [List.pairwise_cons] at h3 ⊢; exact h3
theorem Sat.dup {o : Outer} {w : World} {A : HProp} {r : List HProp} (h : Sat o w (A :: r)) (k : ∀ f, A f → Fro f) : Sat o w (A :: A :: r) := by
  obtain ⟨ho, l, h1, h2, h3⟩ := h
  match l, h1 with
  | p :: l, h1 =>
    simp only [List.map_cons, List.cons.injEq] at h1
    have hp := h2 p (by simp)
    have hfr := k p.2 (h1.1 ▸ hp.1)
    refine ⟨ho, p :: p :: l, by simp [h1], fun s hs => h2 s (by simpa using hs), ?_⟩
    rw [List.pairwise_cons] at h3 ⊢
    refine ⟨fun q hq => ?_, List.pairwise_cons.2 h3⟩
    rcases List.mem_cons.1 hq with e | hq
    · subst e; exact fun b x y hx hy => ⟨hfr b x hx, by rw [hx] at hy; exact Option.some.inj hy⟩
    · exact h3.1 q hq
section
variable {P : Program} {n : Nat} {o : Outer} {sr : List Tmp} {ops : Array Oper} {Q : Post} {St : List HProp} {rest : List Oper} {xs : Env} {hs hs' : List HProp}
theorem W.turn (h : ∀ w, Sat o w hs → Sat o w hs') (k : W P n o sr ops Q St rest xs hs') : W P n o sr ops Q St rest xs hs := ⟨fun a w ha hw => k a w ha (h w hw)⟩
theorem W.ex {α : Type} {hx : α → List HProp} (h : ∀ w, Sat o w hs → ∃ x, Sat o w (hx x)) (k : ∀ x, W P n o sr ops Q St rest xs (hx x)) : W P n o sr ops Q St rest xs hs := ⟨fun a w ha hw => by obtain ⟨x, hx⟩ := h w hw; exact (k x).run a w ha hx⟩
theorem C.ex {α : Type} {c : Code} {hx : α → List HProp} (h : ∀ w, Sat o w hs → ∃ x, Sat o w (hx x)) (k : ∀ x, C P n o Q c xs (hx x)) : C P n o Q c xs hs := ⟨fun a w ha hw => by obtain ⟨x, hx⟩ := h w hw; exact (k x).run a w ha hx⟩
theorem C.turn {c : Code} (h : ∀ w, Sat o w hs → Sat o w hs') (k : C P n o Q c xs hs') : C P n o Q c xs hs := ⟨fun a w ha hw => k a w ha (h w hw)⟩
theorem E.turn {e : Exit} (h : ∀ w, Sat o w hs → Sat o w hs') (k : E n o Q e xs hs') : E n o Q e xs hs := ⟨fun a w ha hw => k a w ha (h w hw)⟩
end
end Go.SL
