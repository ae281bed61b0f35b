/-
  Words, lines, numbers of a text, in plain terms; what the library's cuts give.
-/
import Derived.Lib.FieldsP
import Derived.Lib.ItoaNum
import Derived.Laws.RangeAny
namespace Go.Proofs.YtlibnpdbcjgegaaGreat
open Go
set_option linter.unusedVariables false
set_option linter.unusedSimpArgs false
def blank (c : UInt8) : Bool := c == 32 || c == 9
/-- The words of a text, one begun. -/
def wgo : List UInt8 → List UInt8 → List (List UInt8)
  | [], cur => if cur = [] then [] else [cur]
  | c :: r, cur => if blank c then (if cur = [] then wgo r [] else cur :: wgo r []) else wgo r (cur ++ [c])
def wordsM (s : List UInt8) : List (List UInt8) := wgo s []
theorem wgo_run : ∀ (a r cur : List UInt8), (∀ c ∈ a, blank c = false) → wgo (a ++ r) cur = wgo r (cur ++ a)
  | [], r, cur, _ => by simp
  | c :: a, r, cur, h => by
    simp only [List.cons_append, wgo, h c List.mem_cons_self, Bool.false_eq_true, if_false]
    rw [wgo_run a r (cur ++ [c]) (fun x hx => h x (List.mem_cons_of_mem _ hx))]; simp
theorem decode_wide (s : ByteArray) (pos : Nat) (h : pos < s.size) (ha : 128 ≤ (s[pos]'h).toNat) :
    pos + (Utf8.decode s pos).2 ≤ s.size ∧ ∀ j, pos ≤ j → j < pos + (Utf8.decode s pos).2 → 128 ≤ (s.get! j).toNat := by
  have hn : ¬ (s[pos]'h).toNat < 128 := by omega
  have h0 : (s.get! pos).toNat = (s[pos]'h).toNat := by have := get_at s pos h; rw [Nat.add_zero] at this; rw [this]
  have key : ∀ w, (∀ k, k < w → k = 0 ∨ (pos + k < s.size ∧ (s.get! (pos + k)).toNat / 64 = 2)) → 1 ≤ w → pos + w ≤ s.size ∧ ∀ j, pos ≤ j → j < pos + w → 128 ≤ (s.get! j).toNat := by
    intro w hw h1
    refine ⟨?_, fun j hj hjw => ?_⟩
    · rcases hw (w - 1) (by omega) with h2 | h2 <;> omega
    · rcases hw (j - pos) (by omega) with h2 | h2
      · rw [show j = pos from by omega, h0]; exact ha
      · rw [show pos + (j - pos) = j from by omega] at h2; omega
  simp only [Utf8.decode, get_at s pos h, hn, if_false]
  repeat' split
  all_goals refine key _ (fun k hk => ?_) (by simp)
  all_goals simp only [Bool.and_eq_true, decide_eq_true_eq, beq_iff_eq] at *
  all_goals first
    | (left; omega)
    | (rcases Nat.lt_or_ge k 1 with h1 | h1
       · left; omega
       · right
         rcases (by omega : k = 1 ∨ k = 2 ∨ k = 3) with rfl | rfl | rfl <;> first | omega | (constructor <;> omega) | simp_all)
def bl (r : Nat) : Bool := r == 32 || r == 9
theorem bytes_get (s : List UInt8) (i : Nat) (h : i < s.length) : ((⟨s.toArray⟩ : ByteArray)[i]'(by simpa [ByteArray.size] using h)) = s[i] := rfl
theorem bytes_get! (s : List UInt8) (i : Nat) (h : i < s.length) : (⟨s.toArray⟩ : ByteArray).get! i = s[i] := by
  show s.toArray[i]! = _
  rw [getElem!_pos s.toArray i (by simpa using h)]; rfl
theorem blank_bl (c : UInt8) : blank c = bl c.toNat := by
  simp only [blank, bl]
  rw [show (c == 32) = (c.toNat == 32) from by rw [Bool.eq_iff_iff]; simp [← UInt8.toNat_inj], show (c == 9) = (c.toNat == 9) from by rw [Bool.eq_iff_iff]; simp [← UInt8.toNat_inj]]
def cut (s : List UInt8) (x : Nat × Nat) : List UInt8 := (s.drop x.1).take (x.2 - x.1)
def begunAt (s : List UInt8) (pos : Nat) : Option Nat → List UInt8
  | some a => cut s (a, pos)
  | none => []
theorem cut_more (s : List UInt8) {a pos q : Nat} (h1 : a ≤ pos) (h2 : pos ≤ q) : cut s (a, q) = cut s (a, pos) ++ cut s (pos, q) := by
  simp only [cut]
  rw [show q - a = (pos - a) + (q - pos) from by omega, List.take_add, List.drop_drop, show a + (pos - a) = pos from by omega]
theorem spans_words (s : List UInt8) : ∀ (f pos : Nat) (st : Option Nat) (acc : List (Nat × Nat)), pos ≤ s.length → s.length ≤ pos + f → (∀ a, st = some a → a < pos) →
    (Lib.closeSpans ⟨s.toArray⟩ (Lib.spansFromP bl ⟨s.toArray⟩ f pos st acc)).map (cut s) = acc.map (cut s) ++ wgo (s.drop pos) (begunAt s pos st) := by
  have hsz : (⟨s.toArray⟩ : ByteArray).size = s.length := by simp [ByteArray.size]
  have hend : ∀ (pos : Nat) (st : Option Nat) (acc : List (Nat × Nat)), pos = s.length → (∀ a, st = some a → a < pos) →
      (Lib.closeSpans ⟨s.toArray⟩ (acc, st)).map (cut s) = acc.map (cut s) ++ wgo (s.drop pos) (begunAt s pos st) := by
    intro pos st acc hp hst
    subst hp
    rw [List.drop_length]
    cases st with
    | none => simp [Lib.closeSpans, wgo, begunAt]
    | some a =>
      have ha := hst a rfl
      have hne : cut s (a, s.length) ≠ [] := by intro h; have := congrArg List.length h; simp [cut] at this; omega
      simp only [Lib.closeSpans, hsz, begunAt, List.map_append, List.map_cons, List.map_nil]
      rw [wgo, if_neg hne]
  intro f
  induction f with
  | zero =>
    intro pos st acc hp hf hst
    exact hend pos st acc (by omega) hst
  | succ f ih =>
    intro pos st acc hp hf hst
    unfold Lib.spansFromP
    by_cases hlt : pos < s.length
    · rw [if_pos (by rw [hsz]; exact hlt)]
      have hd : s.drop pos = s[pos] :: s.drop (pos + 1) := List.drop_eq_getElem_cons hlt
      have hlt' : pos < (⟨s.toArray⟩ : ByteArray).size := by rw [hsz]; exact hlt
      by_cases hc : s[pos].toNat < 128
      · rw [decode_ascii ⟨s.toArray⟩ pos hlt' hc]
        simp only
        have hcut : cut s (pos, pos + 1) = [s[pos]] := by simp only [cut, hd]; rw [show pos + 1 - pos = 1 from by omega]; rfl
        rw [show ((⟨s.toArray⟩ : ByteArray)[pos]'hlt').toNat = s[pos].toNat from rfl, ← blank_bl]
        cases hb : blank s[pos] with
        | true =>
          rw [if_pos rfl, hd, wgo, if_pos hb]
          cases st with
          | none =>
            simp only
            rw [ih (pos + 1) none acc (by omega) (by omega) (fun a h => by cases h)]
            simp [begunAt]
          | some a =>
            have ha := hst a rfl
            have hne : cut s (a, pos) ≠ [] := by intro h; have := congrArg List.length h; simp [cut] at this; omega
            simp only
            rw [ih (pos + 1) none (acc ++ [(a, pos)]) (by omega) (by omega) (fun a h => by cases h)]
            simp only [begunAt, List.map_append, List.map_cons, List.map_nil, List.append_assoc, List.singleton_append]
            simp [hne]
        | false =>
          rw [if_neg (by decide), hd, wgo, if_neg (by rw [hb]; decide)]
          cases st with
          | none =>
            simp only
            rw [ih (pos + 1) (some pos) acc (by omega) (by omega) (fun a h => by cases h; omega)]
            simp [begunAt, hcut]
          | some a =>
            have ha := hst a rfl
            simp only
            rw [ih (pos + 1) (some a) acc (by omega) (by omega) (fun b h => by cases h; omega)]
            simp only [begunAt]
            rw [cut_more s (show a ≤ pos by omega) (show pos ≤ pos + 1 by omega), hcut]
      · have hhi := decode_high ⟨s.toArray⟩ pos hlt' (by show 128 ≤ s[pos].toNat; omega)
        have hwd := decode_wide ⟨s.toArray⟩ pos hlt' (by show 128 ≤ s[pos].toNat; omega)
        generalize Utf8.decode ⟨s.toArray⟩ pos = d at hhi hwd
        obtain ⟨rn, wd⟩ := d
        simp only at hhi hwd
        rw [hsz] at hwd
        have hbl : bl rn = false := by simp [bl]; omega
        have hcur : ∀ c ∈ cut s (pos, pos + wd), blank c = false := by
          intro c hc
          simp only [cut, show pos + wd - pos = wd from by omega] at hc
          obtain ⟨j, hj, rfl⟩ := List.mem_iff_getElem.1 hc
          simp only [List.length_take, List.length_drop] at hj
          rw [List.getElem_take, List.getElem_drop, blank_bl]
          have := hwd.2 (pos + j) (by omega) (by omega)
          rw [bytes_get! s (pos + j) (by omega)] at this
          simp [bl]; omega
        have hdd : s.drop pos = cut s (pos, pos + wd) ++ s.drop (pos + wd) := by
          simp only [cut, show pos + wd - pos = wd from by omega]
          rw [← List.drop_drop, List.take_append_drop]
        simp only [hbl, Bool.false_eq_true, if_false]
        rw [hdd, wgo_run _ _ _ hcur]
        cases st with
        | none =>
          simp only
          rw [ih (pos + wd) (some pos) acc (by omega) (by omega) (fun a h => by cases h; omega)]
          simp [begunAt]
        | some a =>
          have ha := hst a rfl
          simp only
          rw [ih (pos + wd) (some a) acc (by omega) (by omega) (fun b h => by cases h; omega)]
          simp only [begunAt]
          rw [cut_more s (show a ≤ pos by omega) (show pos ≤ pos + wd by omega)]
    · rw [if_neg (by rw [hsz]; exact hlt)]
      exact hend pos st acc (by omega) hst
theorem goFields_words (s : List UInt8) : Lib.goFieldsP bl ⟨s.toArray⟩ = (wordsM s).map fun x => ⟨x.toArray⟩ := by
  have h := spans_words s s.length 0 none [] (Nat.zero_le _) (by omega) (fun a h => by cases h)
  have hsz : (⟨s.toArray⟩ : ByteArray).size = s.length := by simp [ByteArray.size]
  simp only [List.map_nil, List.nil_append, List.drop_zero, begunAt] at h
  rw [Lib.goFieldsP, Lib.spansOfP, hsz, wordsM, ← h, List.map_map]
  refine List.map_congr_left fun x _ => ?_
  simp [cut, ByteArray.extract_mk]
/-! lines -/
def dropCR (cur : List UInt8) : List UInt8 := if cur.getLast? = some 13 then cur.dropLast else cur
/-- The lines of a text, one begun. -/
def lgo : List UInt8 → List UInt8 → List (List UInt8)
  | [], cur => if cur = [] then [] else [cur]
  | c :: r, cur => if c = 10 then dropCR cur :: lgo r [] else lgo r (cur ++ [c])
def linesM (s : List UInt8) : List (List UInt8) := lgo s []
/-! numbers -/
def digit (c : UInt8) : Bool := decide (48 ≤ c.toNat) && decide (c.toNat ≤ 57)
def val (s : List UInt8) : Nat := s.foldl (fun n c => 10 * n + (c.toNat - 48)) 0
def numShape (s : List UInt8) : Bool := !(s.isEmpty || decide (13 < s.length) || (s[0]? == some 48 && decide (1 < s.length)))
def numM (s : List UInt8) : Int × Bool := if numShape s && s.all digit && decide (val s ≤ 1099511627776) then ((val s : Nat), true) else (0, false)
theorem val_snoc (s : List UInt8) (c : UInt8) : val (s ++ [c]) = 10 * val s + (c.toNat - 48) := by simp [val]
theorem val_from : ∀ (s : List UInt8) (a : Nat), s.all digit = true → s.foldl (fun n c => 10 * n + (c.toNat - 48)) a < (a + 1) * 10 ^ s.length
  | [], a, _ => by simp
  | c :: r, a, h => by
    rw [List.all_cons, Bool.and_eq_true] at h
    have h2 : c.toNat ≤ 57 := by have := h.1; simp [digit] at this; exact this.2
    have h1 := val_from r (10 * a + (c.toNat - 48)) h.2
    rw [List.foldl_cons, List.length_cons, Nat.pow_succ]
    refine Nat.lt_of_lt_of_le h1 ?_
    rw [show (a + 1) * (10 ^ r.length * 10) = ((a + 1) * 10) * 10 ^ r.length from by rw [Nat.mul_comm (10 ^ r.length), Nat.mul_assoc]]
    exact Nat.mul_le_mul_right _ (by omega)
theorem val_le (s : List UInt8) (h : s.all digit = true) : val s < 10 ^ s.length := by have := val_from s 0 h; simpa [val] using this
theorem digs_digit (u : Nat) (h : u < 10) : (UInt8.ofNat (48 + u)).toNat = 48 + u := by simp; omega
theorem decDigits_step {u : Nat} (h : ¬ u < 10) : Lib.decDigits u = Lib.decDigits (u / 10) ++ [UInt8.ofNat (48 + u % 10)] := by rw [Lib.decDigits, dif_neg h]
theorem decDigits_one {u : Nat} (h : u < 10) : Lib.decDigits u = [UInt8.ofNat (48 + u)] := by rw [Lib.decDigits, dif_pos h]
theorem decDigits_facts : ∀ (k u : Nat), u ≤ k → (Lib.decDigits u).all digit = true ∧ val (Lib.decDigits u) = u ∧ Lib.decDigits u ≠ [] ∧ ((Lib.decDigits u)[0]? = some 48 → u = 0) := by
  intro k
  induction k with
  | zero =>
    intro u hu
    rw [decDigits_one (by omega)]
    have : u = 0 := by omega
    subst this
    exact ⟨by decide, by decide, by decide, fun _ => rfl⟩
  | succ k ih =>
    intro u hu
    by_cases h : u < 10
    · rw [decDigits_one h]
      have hd := digs_digit u h
      refine ⟨by simp [digit, hd, Nat.le_add_right]; omega, by simp only [val, List.foldl_cons, List.foldl_nil, hd]; omega, by simp, fun h0 => ?_⟩
      simp only [List.getElem?_cons_zero, Option.some.injEq] at h0
      have := congrArg UInt8.toNat h0
      rw [hd] at this
      have h48 : (48 : UInt8).toNat = 48 := rfl
      omega
    · rw [decDigits_step h]
      obtain ⟨h1, h2, h3, h4⟩ := ih (u / 10) (by omega)
      have hd := digs_digit (u % 10) (Nat.mod_lt _ (by decide))
      refine ⟨?_, ?_, by simp, fun h0 => ?_⟩
      · rw [List.all_append, h1]; simp only [List.all_cons, List.all_nil, digit, hd, Bool.and_true, Bool.true_and, Bool.and_eq_true, decide_eq_true_eq]; omega
      · rw [val_snoc, h2, hd]; omega
      · rw [List.getElem?_append_left (by have := List.length_pos_iff.2 h3; omega)] at h0
        have := h4 h0; omega
theorem decDigits_len : ∀ (k u : Nat), 1 ≤ k → u < 10 ^ k → (Lib.decDigits u).length ≤ k := by
  intro k
  induction k with
  | zero => intro u h; omega
  | succ k ih =>
    intro u _ hu
    by_cases h : u < 10
    · rw [decDigits_one h]; simp
    · rw [decDigits_step h, List.length_append, List.length_singleton]
      have hk : 1 ≤ k := by
        rcases Nat.eq_zero_or_pos k with h0 | h0
        · subst h0; simp at hu; omega
        · exact h0
      have := ih (u / 10) hk (by rw [Nat.pow_succ] at hu; omega)
      omega
theorem num_itoa (n : Int) : ((numM (Lib.itoa n)).2 = (decide (0 ≤ n) && decide (n ≤ 1099511627776))) ∧ (0 ≤ n → n ≤ 1099511627776 → (numM (Lib.itoa n)).1 = n) := by
  by_cases hn : n < 0
  · have hall : (Lib.itoa n).all digit = false := by rw [Lib.itoa, if_pos hn]; simp [digit]
    refine ⟨?_, fun h => by omega⟩
    rw [numM, hall, decide_eq_false (show ¬ 0 ≤ n by omega)]; simp
  · obtain ⟨u, rfl⟩ := Int.eq_ofNat_of_zero_le (by omega : 0 ≤ n)
    rw [Lib.itoa, if_neg hn, Int.toNat_natCast]
    obtain ⟨h1, h2, h3, h4⟩ := decDigits_facts u u (Nat.le_refl _)
    by_cases hu : u ≤ 1099511627776
    · have hl := decDigits_len 13 u (by decide) (by omega)
      have hsh : numShape (Lib.decDigits u) = true := by
        simp only [numShape, Bool.not_eq_true', Bool.or_eq_false_iff, Bool.and_eq_false_iff, decide_eq_false_iff_not, List.isEmpty_eq_false_iff, ne_eq, h3, not_false_eq_true, true_and]
        refine ⟨by omega, ?_⟩
        by_cases h0 : (Lib.decDigits u)[0]? = some 48
        · right; have := h4 h0; subst this; rw [decDigits_one (by decide)]; decide
        · left; simpa using h0
      rw [numM, hsh, h1, h2, decide_eq_true hu]
      exact ⟨by simp; omega, fun _ _ => by simp⟩
    · rw [numM, h2, decide_eq_false hu]
      refine ⟨by simp; omega, fun _ h => by omega⟩
/-! small letters -/
def lowC (c : UInt8) : UInt8 := if 65 ≤ c.toNat ∧ c.toNat ≤ 90 then c + 32 else c
def lowerM (s : List UInt8) : List UInt8 := s.map lowC
def letter (c : UInt8) : Bool := decide (97 ≤ c.toNat) && decide (c.toNat ≤ 122)
def wordB (s : List UInt8) : Bool := s.all letter && decide (1 ≤ s.length) && decide (s.length ≤ 24)
/-- So many of a, and the rest of b. -/
def mix {α : Type} (a b : List α) (k : Nat) : List α := a.take k ++ b.drop k
theorem mix_len {α : Type} {a b : List α} (h : a.length = b.length) (k : Nat) : (mix a b k).length = b.length := by simp [mix]; omega
theorem mix_get {α : Type} {a b : List α} (h : a.length = b.length) {k : Nat} (hk : k < b.length) : (mix a b k)[k]? = b[k]? := by
  rw [mix, List.getElem?_append_right (by simp; omega)]; simp [show min k a.length = k from by omega]
theorem mix_zero {α : Type} (a b : List α) : mix a b 0 = b := by simp [mix]
theorem mix_all {α : Type} {a b : List α} (h : a.length = b.length) {k : Nat} (hk : b.length ≤ k) : mix a b k = a := by
  rw [mix, List.take_of_length_le (by omega), List.drop_eq_nil_of_le hk, List.append_nil]
theorem mix_set {α : Type} {a b : List α} (h : a.length = b.length) {k : Nat} {x : α} (hx : a[k]? = some x) : (mix a b k).set k x = mix a b (k + 1) := by
  have hk := (List.getElem?_eq_some_iff.1 hx).1
  have hd : b.drop k = b[k]'(by omega) :: b.drop (k + 1) := List.drop_eq_getElem_cons _
  rw [mix, mix, List.set_append_right _ _ (by simp; omega), List.take_add_one, hx, hd]
  simp [show min k a.length = k from by omega]
  rw [hd]; rfl
theorem mix_same {α : Type} {a b : List α} (h : a.length = b.length) {k : Nat} {x : α} (hx : a[k]? = some x) (hy : b[k]? = some x) : mix a b k = mix a b (k + 1) := by
  have hk := (List.getElem?_eq_some_iff.1 hy)
  rw [mix, mix, List.take_add_one, hx, List.drop_eq_getElem_cons hk.1, hk.2]; simp
theorem lower_get (s : List UInt8) (k : Nat) (c : UInt8) (h : s[k]? = some c) : (lowerM s)[k]? = some (lowC c) := by rw [lowerM, List.getElem?_map, h]; rfl
theorem lower_len (s : List UInt8) : (lowerM s).length = s.length := by simp [lowerM]
theorem lowC_big {c : UInt8} (h1 : 65 ≤ c.toNat) (h2 : c.toNat ≤ 90) {z : Int} (hz : z = c.toNat + 32) : UInt8.ofNat z.toNat = lowC c := by
  rw [lowC, if_pos ⟨h1, h2⟩]
  apply UInt8.toNat_inj.1
  rw [UInt8.toNat_add, UInt8.toNat_ofNat', hz]
  show ((c.toNat : Int) + 32).toNat % 2 ^ 8 = (c.toNat + 32) % 2 ^ 8
  congr 1
theorem lowC_small {c : UInt8} (h : ¬ (65 ≤ c.toNat ∧ c.toNat ≤ 90)) : lowC c = c := if_neg h
/-! the pieces between 10s -/
def sgo : List UInt8 → List UInt8 → List (List UInt8)
  | [], cur => [cur]
  | c :: r, cur => if c = 10 then cur :: sgo r [] else sgo r (cur ++ [c])
theorem sgo_run : ∀ (a r cur : List UInt8), (∀ c ∈ a, c ≠ 10) → sgo (a ++ r) cur = sgo r (cur ++ a)
  | [], r, cur, _ => by simp
  | c :: a, r, cur, h => by
    simp only [List.cons_append, sgo, if_neg (h c List.mem_cons_self)]
    rw [sgo_run a r (cur ++ [c]) (fun x hx => h x (List.mem_cons_of_mem _ hx))]; simp
theorem sgo_len : ∀ (r cur : List UInt8), (sgo r cur).length = r.count 10 + 1
  | [], cur => rfl
  | c :: r, cur => by
    simp only [sgo]
    by_cases h : c = 10
    · subst h; rw [if_pos rfl, List.length_cons, sgo_len r [], List.count_cons_self]
    · rw [if_neg h, sgo_len r _, List.count_cons_of_ne h]
/-- The lines of the pieces. -/
def unpiece : List (List UInt8) → List (List UInt8)
  | [] => []
  | [x] => if x = [] then [] else [x]
  | x :: y :: r => dropCR x :: unpiece (y :: r)
theorem sgo_ne (r cur : List UInt8) : ∃ x y, sgo r cur = x :: y := by
  have h := sgo_len r cur
  cases hs : sgo r cur with
  | nil => rw [hs] at h; simp at h
  | cons x y => exact ⟨x, y, rfl⟩
theorem lgo_sgo : ∀ (r cur : List UInt8), lgo r cur = unpiece (sgo r cur)
  | [], cur => rfl
  | c :: r, cur => by
    simp only [lgo, sgo]
    by_cases h : c = 10
    · rw [if_pos h, if_pos h, lgo_sgo r []]
      obtain ⟨x, y, hs⟩ := sgo_ne r []
      rw [hs]; rfl
    · rw [if_neg h, if_neg h, lgo_sgo r _]
theorem wgo_len : ∀ (r cur : List UInt8), (wgo r cur).length ≤ r.length + 1
  | [], cur => by simp only [wgo]; split <;> simp
  | c :: r, cur => by
    simp only [wgo]
    have h1 := wgo_len r []
    have h2 := wgo_len r (cur ++ [c])
    split
    · split <;> simp <;> omega
    · simp; omega
/-- The digits of a number, none of 0. -/
def dg (u : Nat) : List UInt8 := if u = 0 then [] else Lib.decDigits u
theorem dg_step {u : Nat} (h : u ≠ 0) : dg u = dg (u / 10) ++ [UInt8.ofNat (48 + u % 10)] := by
  rw [dg, if_neg h]
  by_cases h1 : u < 10
  · rw [decDigits_one h1, dg, if_pos (by omega), Nat.mod_eq_of_lt h1]; rfl
  · rw [decDigits_step h1, dg, if_neg (by omega)]
end Go.Proofs.YtlibnpdbcjgegaaGreat
