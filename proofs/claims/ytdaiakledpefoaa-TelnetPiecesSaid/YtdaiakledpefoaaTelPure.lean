/-
  What the bytes of a line make of a reader: plain laws, no program in sight.
-/
import Derived.Test.YtdaiakledpefoaaTelFeed
namespace Go.Proofs.Ytdaiakledpefoaa
set_option linter.unusedVariables false
set_option linter.unusedSimpArgs false
def Out.and (O1 O2 : Out) : Out := ⟨O1.lines ++ O2.lines, O1.answer ++ O2.answer⟩
theorem Out.and_nil (O : Out) : O.and ⟨[], []⟩ = O := by simp [Out.and]
theorem Out.nil_and (O : Out) : Out.and ⟨[], []⟩ O = O := by simp [Out.and]
theorem Out.and_assoc (a b c : Out) : (a.and b).and c = a.and (b.and c) := by simp [Out.and]
theorem done_out (R : Rd) (O : Out) : doneM R O = ((doneM R ⟨[], []⟩).1, O.and (doneM R ⟨[], []⟩).2) := by simp [doneM, Out.and]
theorem switch_out (R : Rd) (c : UInt8) (O : Out) : switchM R c O = ((switchM R c ⟨[], []⟩).1, O.and (switchM R c ⟨[], []⟩).2) := by
  unfold switchM
  repeat' split
  all_goals first | exact done_out R O | simp [Out.and]
theorem text_out (R : Rd) (c : UInt8) (O : Out) : textM R c O = ((textM R c ⟨[], []⟩).1, O.and (textM R c ⟨[], []⟩).2) := by
  unfold textM
  split
  · simp only
    rw [done_out { R with turn := false } O]
    simp only
    split
    · rfl
    · rw [switch_out _ c (O.and _), switch_out _ c (doneM { R with turn := false } ⟨[], []⟩).2]
      simp only [Out.and_assoc]
  · exact switch_out R c O
theorem one_out (R : Rd) (c : UInt8) (O : Out) : oneM R c O = ((oneM R c ⟨[], []⟩).1, O.and (oneM R c ⟨[], []⟩).2) := by
  unfold oneM
  split
  · exact text_out R c O
  all_goals
    repeat' split
    all_goals simp [Out.and]
theorem feed_append (R : Rd) (O : Out) (a b : List UInt8) : feedM R O (a ++ b) = feedM (feedM R O a).1 (feedM R O a).2 b := by simp [feedM]
theorem feed_cons (R : Rd) (O : Out) (c : UInt8) (b : List UInt8) : feedM R O (c :: b) = feedM (oneM R c O).1 (oneM R c O).2 b := rfl
theorem feed_out (R : Rd) (O : Out) (b : List UInt8) : feedM R O b = ((feedM R ⟨[], []⟩ b).1, O.and (feedM R ⟨[], []⟩ b).2) := by
  induction b generalizing R O with
  | nil => simp [feedM, Out.and]
  | cons c b ih =>
    rw [feed_cons, feed_cons, ih, ih (oneM R c ⟨[], []⟩).1 (oneM R c ⟨[], []⟩).2, one_out R c O]
    simp only [Out.and_assoc]
/-- Pieces one behind the other. -/
theorem feed_pieces (R : Rd) (a b : List UInt8) : feedM R ⟨[], []⟩ (a ++ b) = ((feedM (feedM R ⟨[], []⟩ a).1 ⟨[], []⟩ b).1, (feedM R ⟨[], []⟩ a).2.and (feedM (feedM R ⟨[], []⟩ a).1 ⟨[], []⟩ b).2) := by
  rw [feed_append, feed_out]
/-- A byte of a line. -/
theorem one_plain (v : UInt8) (l : List UInt8) (c : UInt8) (O : Out) (h1 : 32 ≤ c.toNat) (h2 : c.toNat ≤ 126) (hl : l.length < 120) : oneM ⟨0, v, false, false, l⟩ c O = (⟨0, v, false, false, l ++ [c]⟩, O) := by
  simp only [oneM, textM, switchM]
  rw [if_pos (by rfl), if_neg (by simp), if_neg (by simp; omega), if_neg (by simp; omega), if_neg (by simp; omega), if_neg (by simp; omega), if_neg (by simp; omega), if_neg (by simp; omega)]
theorem one_over (v : UInt8) (ov : Bool) (l : List UInt8) (c : UInt8) (O : Out) (h1 : 32 ≤ c.toNat) (h2 : c.toNat ≤ 126) (hl : l.length = 120) : oneM ⟨0, v, false, ov, l⟩ c O = (⟨0, v, false, true, l⟩, O) := by
  simp only [oneM, textM, switchM]
  rw [if_pos (by rfl), if_neg (by simp), if_neg (by simp; omega), if_neg (by simp; omega), if_neg (by simp; omega), if_neg (by simp; omega), if_neg (by simp; omega), if_pos (by simp; omega)]
theorem feed_plain (v : UInt8) (O : Out) : ∀ (t l : List UInt8), (∀ c ∈ t, 32 ≤ c.toNat ∧ c.toNat ≤ 126) → l.length + t.length ≤ 120 → feedM ⟨0, v, false, false, l⟩ O t = (⟨0, v, false, false, l ++ t⟩, O)
  | [], l, _, _ => by simp [feedM]
  | c :: t, l, h, hl => by
    have hc := h c List.mem_cons_self
    simp only [List.length_cons] at hl
    rw [feed_cons, one_plain v l c O hc.1 hc.2 (by omega), feed_plain v O t (l ++ [c]) (fun x hx => h x (List.mem_cons_of_mem _ hx)) (by simp; omega)]
    simp
theorem feed_over (v : UInt8) (O : Out) : ∀ (t l : List UInt8) (ov : Bool), (∀ c ∈ t, 32 ≤ c.toNat ∧ c.toNat ≤ 126) → l.length = 120 → feedM ⟨0, v, false, ov, l⟩ O t = (⟨0, v, false, ov || !t.isEmpty, l⟩, O)
  | [], l, ov, _, _ => by simp [feedM]
  | c :: t, l, ov, h, hl => by
    have hc := h c List.mem_cons_self
    rw [feed_cons, one_over v ov l c O hc.1 hc.2 hl, feed_over v O t l true (fun x hx => h x (List.mem_cons_of_mem _ hx)) hl]
    simp
theorem one_end (v : UInt8) (ov : Bool) (l : List UInt8) (O : Out) : oneM ⟨0, v, false, ov, l⟩ 10 O = (⟨0, v, false, false, []⟩, ⟨O.lines ++ [if ov = true then [255] else l], O.answer⟩) := by
  simp [oneM, textM, switchM, doneM]
theorem one_turn (v : UInt8) (ov : Bool) (l : List UInt8) (O : Out) : oneM ⟨0, v, false, ov, l⟩ 13 O = (⟨0, v, true, ov, l⟩, O) := by
  simp [oneM, textM, switchM]
theorem one_turned (v : UInt8) (ov : Bool) (l : List UInt8) (O : Out) : oneM ⟨0, v, true, ov, l⟩ 10 O = (⟨0, v, false, false, []⟩, ⟨O.lines ++ [if ov = true then [255] else l], O.answer⟩) := by
  simp [oneM, textM, doneM]
theorem one_erase (v : UInt8) (l : List UInt8) (c : UInt8) (O : Out) (h : c = 8 ∨ c = 127) : oneM ⟨0, v, false, false, l⟩ c O = (⟨0, v, false, false, l.take (l.length - 1)⟩, O) := by
  have ht : (max ((l.length : Int) - 1) 0).toNat = l.length - 1 := by omega
  rcases h with rfl | rfl <;> simp [oneM, textM, switchM, ht]
/-- A line of x, however long. -/
theorem feed_long (v : UInt8) (n : Nat) : feedM ⟨0, v, false, false, []⟩ ⟨[], []⟩ (List.replicate n 120 ++ [10]) = (⟨0, v, false, false, []⟩, ⟨[if n > 120 then [255] else List.replicate n 120], []⟩) := by
  have hx : ∀ m, ∀ c ∈ List.replicate m (120 : UInt8), 32 ≤ c.toNat ∧ c.toNat ≤ 126 := by
    intro m c hc
    rw [(List.mem_replicate.1 hc).2]; decide
  rw [feed_append]
  by_cases h : n > 120
  · have hs : List.replicate n (120 : UInt8) = List.replicate 120 120 ++ List.replicate (n - 120) 120 := by rw [List.replicate_append_replicate]; congr 1; omega
    rw [hs, feed_append, feed_plain v _ _ _ (hx 120) (by simp), feed_over v _ _ _ _ (hx _) (by simp), feed_cons, one_end, if_pos h]
    have : (List.replicate (n - 120) (120 : UInt8)).isEmpty = false := by rw [List.isEmpty_eq_false_iff]; simp; omega
    simp only [this]
    rfl
  · rw [feed_plain v _ _ _ (hx n) (by simp; omega), feed_cons, one_end, if_neg h]
    rfl
theorem feed_erases (v : UInt8) (c : UInt8) (O : Out) (h : c = 8 ∨ c = 127) : ∀ (k : Nat) (l : List UInt8), feedM ⟨0, v, false, false, l⟩ O (List.replicate k c) = (⟨0, v, false, false, l.take (l.length - k)⟩, O)
  | 0, l => by simp [feedM]
  | k + 1, l => by
    rw [List.replicate_succ, feed_cons, one_erase v l c O h, feed_erases v c O h k]
    simp only [List.length_take, List.take_take, Prod.mk.injEq, Rd.mk.injEq, true_and, and_true]
    congr 1; omega
/-- Letters, and as many of them taken away. -/
theorem feed_erase (v : UInt8) (c : UInt8) (h : c = 8 ∨ c = 127) (t : List UInt8) (k : Nat) (ht : ∀ c ∈ t, 32 ≤ c.toNat ∧ c.toNat ≤ 126) (hl : t.length ≤ 120) :
    feedM ⟨0, v, false, false, []⟩ ⟨[], []⟩ (t ++ List.replicate k c ++ [10]) = (⟨0, v, false, false, []⟩, ⟨[t.take (t.length - k)], []⟩) := by
  rw [feed_append, feed_append, feed_plain v _ _ _ ht (by simpa using hl), feed_erases v c _ h, feed_cons, one_end]
  rfl
/-- An option's command within a line. -/
theorem feed_option (v cmd opt : UInt8) (t : List UInt8) (ht : ∀ c ∈ t, 32 ≤ c.toNat ∧ c.toNat ≤ 126) (hl : t.length ≤ 120) (hc : cmd = 251 ∨ cmd = 252 ∨ cmd = 253 ∨ cmd = 254) :
    (feedM ⟨0, v, false, false, []⟩ ⟨[], []⟩ (t ++ [255, cmd, opt] ++ [13, 10])).2 = ⟨[t], if cmd = 251 then [255, 254, opt] else if cmd = 253 then [255, 252, opt] else []⟩ := by
  rw [feed_append, feed_append, feed_plain v _ _ _ ht (by simpa using hl)]
  have e1 : ∀ (v : UInt8) (l : List UInt8) (O : Out), oneM ⟨0, v, false, false, l⟩ 255 O = (⟨1, v, false, false, l⟩, O) := fun v l O => by simp [oneM, textM, switchM]
  have e2 : ∀ (l : List UInt8) (O : Out), oneM ⟨1, v, false, false, l⟩ cmd O = (⟨2, cmd, false, false, l⟩, O) := fun l O => by
    rcases hc with rfl | rfl | rfl | rfl <;> simp [oneM]
  have e3 : ∀ (l : List UInt8) (O : Out), oneM ⟨2, cmd, false, false, l⟩ opt O = (⟨0, cmd, false, false, l⟩, ⟨O.lines, O.answer ++ (if cmd = 251 then [255, 254, opt] else if cmd = 253 then [255, 252, opt] else [])⟩) := fun l O => by
    rcases hc with rfl | rfl | rfl | rfl <;> simp [oneM]
  have e0 : ∀ (R : Rd) (O : Out), feedM R O [] = (R, O) := fun _ _ => rfl
  simp only [feed_cons, e0, e1, e2, e3, one_turn, one_turned]
  simp
end Go.Proofs.Ytdaiakledpefoaa
