/-
  Slices that are never written any more, held by their headers in other slices.
-/
import Derived.Test.YtlibnpdbcjgegaaGreatSLMerge
namespace Go.SL
set_option linter.unusedVariables false
/-- A slice's value: where, how many, how many at most. -/
abbrev Hdr := Option Addr × Nat × Nat
abbrev Hdr.v (h : Hdr) : Value := .slice h.1 h.2.1 h.2.2
@[reducible] def Enc.hdr : Enc Hdr := ⟨1, fun h => [.slice h.1 h.2.1 h.2.2], fun _ => rfl, fun x v h => by simp at h; subst h; rfl, by decide⟩
section
variable {α : Type}
def SeqIn (E : Enc α) (f : Hp) (h : Hdr) (x : List α) : Prop :=
  h.2.1 = x.length ∧ x.length ≤ h.2.2 ∧ (x = [] ∨ ∃ g off cs T fr, h.1 = some ⟨g, off, none⟩ ∧ f g = some (true, .cells cs T fr) ∧ ∀ (i : Nat) (v : Value), (E.all x)[i]? = some v → cs[off + i]? = some v)
theorem SeqIn.mono {E : Enc α} {f g : Hp} {h : Hdr} {x : List α} (k : SeqIn E f h x) (hm : ∀ b y, f b = some y → g b = some y) : SeqIn E g h x := by
  obtain ⟨h1, h2, h3⟩ := k
  refine ⟨h1, h2, h3.imp id ?_⟩
  rintro ⟨b, off, cs, T, fr, ha, hb, hc⟩
  exact ⟨b, off, cs, T, fr, ha, hm _ _ hb, hc⟩
inductive All2 (R : Hdr → List α → Prop) : List Hdr → List (List α) → Prop
  | nil : All2 R [] []
  | cons {h : Hdr} {x : List α} {hs : List Hdr} {xs : List (List α)} : R h x → All2 R hs xs → All2 R (h :: hs) (x :: xs)
theorem All2.mono {R S : Hdr → List α → Prop} {hs : List Hdr} {xs : List (List α)} (k : All2 R hs xs) (hm : ∀ h x, R h x → S h x) : All2 S hs xs := by
  induction k with
  | nil => exact .nil
  | cons h _ ih => exact .cons (hm _ _ h) ih
theorem All2.len {R : Hdr → List α → Prop} {hs : List Hdr} {xs : List (List α)} (k : All2 R hs xs) : hs.length = xs.length := by
  induction k with
  | nil => rfl
  | cons _ _ ih => simp [ih]
theorem All2.append {R : Hdr → List α → Prop} {hs hs' : List Hdr} {xs xs' : List (List α)} (k : All2 R hs xs) (k' : All2 R hs' xs') : All2 R (hs ++ hs') (xs ++ xs') := by
  induction k with
  | nil => exact k'
  | cons h _ ih => exact .cons h ih
theorem All2.get {R : Hdr → List α → Prop} {hs : List Hdr} {xs : List (List α)} (k : All2 R hs xs) : ∀ (i : Nat) (h : Hdr) (x : List α), hs[i]? = some h → xs[i]? = some x → R h x := by
  induction k with
  | nil => intro i h x hh; simp at hh
  | cons hr _ ih =>
    intro i h x hh hx
    cases i with
    | zero => simp at hh hx; subst hh hx; exact hr
    | succ i => exact ih i h x (by simpa using hh) (by simpa using hx)
theorem All2.set {R : Hdr → List α → Prop} {hs : List Hdr} {xs : List (List α)} (k : All2 R hs xs) {h : Hdr} {x : List α} (hr : R h x) : ∀ (i : Nat), All2 R (hs.set i h) (xs.set i x) := by
  induction k with
  | nil => intro i; exact .nil
  | cons h' k' ih =>
    intro i
    cases i with
    | zero => exact .cons hr k'
    | succ i => exact .cons h' (ih i)
theorem All2.same {R : Hdr → List α → Prop} {h : Hdr} {x : List α} (hr : R h x) : ∀ n, All2 R (List.replicate n h) (List.replicate n x)
  | 0 => .nil
  | n + 1 => .cons hr (All2.same hr n)
theorem All2.take {R : Hdr → List α → Prop} {hs : List Hdr} {xs : List (List α)} (k : All2 R hs xs) : ∀ n, All2 R (hs.take n) (xs.take n) := by
  induction k with
  | nil => intro n; simp; exact .nil
  | cons h _ ih =>
    intro n
    cases n with
    | zero => exact .nil
    | succ n => exact .cons h (ih n)
/-- What lies behind these headers, never written any more. -/
def frz (E : Enc α) (hs : List Hdr) (xs : List (List α)) : HProp := fun f => Fro f ∧ All2 (SeqIn E f) hs xs
variable {E : Enc α} {o : Outer} {w : World} {r : List HProp} {hs hs' : List Hdr} {xs xs' : List (List α)} {h : Hdr} {x : List α}
theorem frz_fro : ∀ f, frz E hs xs f → Fro f := fun f h => h.1
theorem frz_nil : frz E [] [] SL.emp := ⟨fun b x h => (by cases h), .nil⟩
theorem frz_len (k : Sat o w (frz E hs xs :: r)) : hs.length = xs.length := by obtain ⟨f, hf, _⟩ := k.head; exact hf.2.len
theorem frz_hdr (k : Sat o w (frz E [h] [x] :: r)) : h.2.1 = x.length ∧ x.length ≤ h.2.2 := by
  obtain ⟨f, hf, _⟩ := k.head
  have := hf.2.get 0 h x rfl rfl
  exact ⟨this.1, this.2.1⟩
theorem frz_reads : Reads (frz E [h] [x]) E h.1 x := by
  intro f w hf hw
  have := (hf.2.get 0 h x rfl rfl).2.2
  refine this.imp id ?_
  rintro ⟨g, off, cs, T, fr, ha, hb, hc⟩
  refine ⟨g, off, ha, fun i v hv => ?_⟩
  have := hw g _ hb
  simp [World.cell?, this, hc i v hv]
/-- Two parts that are never written any more are one. -/
theorem Sat.join {A B C : HProp} (k : Sat o w (A :: B :: r)) (hA : ∀ f, A f → Fro f) (hB : ∀ f, B f → Fro f)
    (hC : ∀ f g u, A f → B g → Fro u → (∀ b y, f b = some y → u b = some y) → (∀ b y, g b = some y → u b = some y) → C u) : Sat o w (C :: r) := by
  refine k.merge ?_
  intro f g hf hg hc
  have hfr : Fro fun b => (f b).or (g b) := by
    intro b y hb
    simp only [Option.or_eq_some_iff] at hb
    rcases hb with hb | ⟨_, hb⟩
    · exact hA f hf b y hb
    · exact hB g hg b y hb
  refine ⟨fun b => (f b).or (g b), hC f g _ hf hg hfr (fun b y hb => by simp [hb]) (fun b y hb => ?_), fun b y hb => ?_⟩
  · cases hfb : f b with
    | none => simp [hb]
    | some z => have := (hc b z y hfb hb).2; subst this; simp
  · simp only [Option.or_eq_some_iff] at hb
    rcases hb with hb | ⟨_, hb⟩
    · exact ⟨y, .inl hb, rfl, id⟩
    · exact ⟨y, .inr hb, rfl, id⟩
theorem frz_append (k : Sat o w (frz E hs xs :: frz E hs' xs' :: r)) : Sat o w (frz E (hs ++ hs') (xs ++ xs') :: r) :=
  k.join frz_fro frz_fro fun f g u hf hg hu h1 h2 => ⟨hu, (hf.2.mono fun _ _ q => q.mono h1).append (hg.2.mono fun _ _ q => q.mono h2)⟩
theorem frz_get {i : Nat} (hh : hs[i]? = some h) (hx : xs[i]? = some x) (k : Sat o w (frz E hs xs :: r)) : Sat o w (frz E [h] [x] :: frz E hs xs :: r) :=
  (k.dup frz_fro).weaken fun f hf => ⟨hf.1, .cons (hf.2.get i h x hh hx) .nil⟩
theorem frz_set (i : Nat) (k : Sat o w (frz E [h] [x] :: frz E hs xs :: r)) : Sat o w (frz E (hs.set i h) (xs.set i x) :: r) :=
  k.join frz_fro frz_fro fun f g u hf hg hu h1 h2 => ⟨hu, (hg.2.mono fun _ _ q => q.mono h2).set ((hf.2.get 0 h x rfl rfl).mono h1) i⟩
theorem frz_same (n : Nat) (k : Sat o w (frz E [h] [x] :: r)) : Sat o w (frz E (List.replicate n h) (List.replicate n x) :: r) :=
  k.weaken fun f hf => ⟨hf.1, .same (hf.2.get 0 h x rfl rfl) n⟩
/-- A slice of one's own is never written any more from here on. -/
theorem frz_of {e : Nat} {A : Option Addr} {c : Nat} (k : Sat o w (sl E e A c x :: r)) : Sat o w (frz E [(A, x.length, c)] [x] :: r) := by
  have hcap := k.sl_cap
  rcases k.sl_open with ⟨rfl, rfl, rfl, k2⟩ | ⟨g, pre, spare, rfl, hl, hc, k2⟩
  · exact k2.lift (.emp ⟨fun b x h => (by cases h), .cons ⟨rfl, Nat.le_refl _, .inl rfl⟩ .nil⟩ _)
  · refine Sat.merge (A := blk g e (pre ++ E.all x ++ spare)) (B := fun f => f = SL.emp) (k2.lift ((Lift.emp (A := fun f => f = SL.emp) rfl _).trans (.swap _ _ _))) ?_
    rintro f g' ⟨fr, _, rfl⟩ rfl _
    refine ⟨one g (true, .cells (pre ++ E.all x ++ spare).toArray e fr), ⟨fun b y hb => ?_, .cons ⟨rfl, hcap.1, .inr ⟨g, pre.length, _, e, fr, rfl, one_self _ _, fun i v hv => ?_⟩⟩ .nil⟩, fun b y hb => ?_⟩
    · obtain ⟨_, rfl⟩ := one_some hb; rfl
    · have hi := (List.getElem?_eq_some_iff.1 hv).1
      simp only [List.getElem?_toArray]
      rw [List.append_assoc, List.getElem?_append_right (by omega), show pre.length + i - pre.length = i from by omega, List.getElem?_append_left hi, hv]
    · obtain ⟨rfl, rfl⟩ := one_some hb
      exact ⟨_, .inl (one_self _ _), rfl, fun h => by cases h⟩
end
end Go.SL
