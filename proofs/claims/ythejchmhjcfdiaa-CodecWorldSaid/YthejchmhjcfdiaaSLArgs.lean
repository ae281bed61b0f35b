/-
  What an argument of any shape tells: its cells are those of some value; its slices read as lists.
-/
import Derived.Test.YthejchmhjcfdiaaSLBase
import Derived.Test.YthejchmhjcfdiaaSLFrz
import Derived.Deep.Slices
import Derived.OpenShut
namespace Go.SL
set_option linter.unusedVariables false
open Go.RowKit
/-- Whatever reads as a t has the cells of some y, of which Good is known. -/
def Dec (P : Program) (W : World) (t : TypeId) {α : Type} (En : Enc α) (Good : α → Prop) : Prop :=
  ∀ (H : Type) (enc : TypeId × Value → H) (base : Nat) (spare : Nat → Bool) (held : Bool) (fuel : Nat) (cs : List Value) (x : DataW H × List MemPlace), DataW.trod enc P W base spare held fuel t cs = some x → ∃ y, En.f y = cs ∧ Good y
def HdrOk (W : World) {α : Type} (En : Enc α) (Good : α → Prop) (h : Hdr) : Prop :=
  ∃ l : List α, l.length = h.2.1 ∧ h.2.1 ≤ h.2.2 ∧ h.2.2 ≤ maxLen ∧ Reads (base W) En h.1 l ∧ ∀ y ∈ l, Good y
section
variable {P : Program} {W : World} {t : TypeId}
theorem dec_int {k : IntKind} (ht : P.underlying t = some (.int k)) : Dec P W t (Enc.int k) (fun z => (Lit.int k z).wf = true) := by
  intro H enc base spare held fuel cs x h
  obtain ⟨n, rfl, _, hw⟩ := DataW.trod_int ht h
  exact ⟨n, rfl, hw⟩
theorem dec_bool (ht : P.underlying t = some .bool) : Dec P W t Enc.bool (fun _ => True) := by
  intro H enc base spare held fuel cs x h
  obtain ⟨b, rfl, _⟩ := DataW.trod_bool ht h
  exact ⟨b, rfl, trivial⟩
theorem dec_u8 (ht : P.underlying t = some (.int .u8)) : Dec P W t Enc.u8 (fun _ => True) := by
  intro H enc base spare held fuel cs x h
  obtain ⟨n, rfl, _, hw⟩ := DataW.trod_int ht h
  exact ⟨UInt8.ofNat n.toNat, by simp only [u8_arg n hw], trivial⟩
theorem dec_str (ht : P.underlying t = some .string) : Dec P W t Enc.str (fun s => s.length ≤ maxLen) := by
  intro H enc base spare held fuel cs x h
  obtain ⟨s, rfl, _, hs⟩ := DataW.trod_string ht h
  refine ⟨s.data.toList, ?_, ?_⟩
  · show [str s.data.toList] = _
    rw [str_data]
  · show s.data.toList.length ≤ maxLen
    rw [Array.length_toList]; exact hs
theorem dec_slice {e : TypeId} {α : Type} {En : Enc α} {Good : α → Prop} (ht : P.underlying t = some (.slice e)) (hc : P.cellsOf e = En.sz) (hd : Dec P W e En Good) : Dec P W t Enc.hdr (HdrOk W En Good) := by
  intro H enc bs spare held fuel cs x h
  rcases Go.Deep.open_slice ht h with ⟨rfl, _⟩ | ⟨a, len, cap, m, n, D, Pl, rfl, _, hl, hm, hmm, _, hx⟩
  · exact ⟨(none, 0, 0), rfl, [], rfl, Nat.le_refl _, Nat.zero_le _, fun _ _ _ _ => .inl rfl, fun _ h => by cases h⟩
  · have hlm : len ≤ m := by rw [hmm]; split <;> omega
    have each : ∀ i, i < len → ∃ y, Good y ∧ ∀ j v, (En.f y)[j]? = some v → W.cell? (a.add (i * En.sz + j)) = some v := by
      intro i hi
      obtain ⟨cs', h1, h2⟩ := hx i (by omega)
      obtain ⟨y, rfl, hg⟩ := hd _ _ _ _ _ _ _ _ h2
      obtain ⟨_, hlen, hcell⟩ := World.cells?_some h1
      refine ⟨y, hg, fun j v hv => ?_⟩
      have hj := (List.getElem?_eq_some_iff.1 hv).1
      have := hcell j (by rw [hc, ← En.len y]; exact hj)
      rw [hv, hc] at this
      rw [← this]
      congr 1
      unfold Addr.add
      by_cases h1 : i * En.sz = 0
      · by_cases h2 : j = 0
        · simp [h1, h2]
        · simp [h1, h2]
      · by_cases h2 : j = 0
        · simp [h1, h2]
        · rw [if_neg (by omega), if_neg h2, if_neg h1]; simp [Nat.add_assoc]
    have pickL : ∃ l : List α, l.length = len ∧ ∀ i y, l[i]? = some y → Good y ∧ ∀ j v, (En.f y)[j]? = some v → W.cell? (a.add (i * En.sz + j)) = some v := by
      have : ∀ k, k ≤ len → ∃ l : List α, l.length = k ∧ ∀ i y, l[i]? = some y → Good y ∧ ∀ j v, (En.f y)[j]? = some v → W.cell? (a.add (i * En.sz + j)) = some v := by
        intro k
        induction k with
        | zero => intro _; exact ⟨[], rfl, fun i y h => by simp at h⟩
        | succ k ih =>
          intro hk
          obtain ⟨l, h1, h2⟩ := ih (by omega)
          obtain ⟨y, hg, hy⟩ := each k (by omega)
          refine ⟨l ++ [y], by simp [h1], fun i z hz => ?_⟩
          rcases Nat.lt_or_ge i k with hik | hik
          · rw [List.getElem?_append_left (by omega)] at hz; exact h2 i z hz
          · rw [List.getElem?_append_right (by omega), h1] at hz
            have : i - k = 0 := by have := (List.getElem?_eq_some_iff.1 hz).1; simp at this; omega
            rw [this] at hz; simp at hz; subst hz
            have : i = k := by omega
            subst this; exact ⟨hg, hy⟩
      exact this len (Nat.le_refl _)
    obtain ⟨l, hl1, hl2⟩ := pickL
    refine ⟨(some a, len, cap), rfl, l, hl1, hl, hm, ?_, fun y hy => ?_⟩
    · rcases Nat.eq_zero_or_pos len with h0 | h0
      · exact fun _ _ _ _ => .inl (List.length_eq_zero_iff.1 (by omega))
      have hsp : a.spot = none := by
        have hy0 : l[0]? = some l[0] := List.getElem?_eq_getElem (by omega)
        have hp := En.pos
        have hj : (En.f l[0])[0]? = some ((En.f l[0])[0]'(by rw [En.len]; exact hp)) := List.getElem?_eq_getElem _
        have h1 := (hl2 0 l[0] hy0).2 0 _ hj
        have h2 : a.add (0 * En.sz + 0) = a := by simp [Addr.add]
        rw [h2] at h1
        cases hs : a.spot with
        | none => rfl
        | some s => simp only [World.cell?, hs, Option.isSome_some, if_true] at h1; split at h1 <;> cases h1
      refine reads_base (.inr ⟨a.block, a.off, ?_, fun i v hv => ?_⟩)
      · obtain ⟨b, o, s⟩ := a; simp only at hsp; subst hsp; rfl
      · have hi := (List.getElem?_eq_some_iff.1 hv).1
        rw [En.all_length] at hi
        have hp := En.pos
        have hdm : i / En.sz * En.sz + i % En.sz = i := by rw [Nat.mul_comm]; exact Nat.div_add_mod i En.sz
        have hml : i % En.sz < En.sz := Nat.mod_lt _ hp
        have hq : i / En.sz < l.length := (Nat.div_lt_iff_lt_mul hp).2 hi
        have hy : l[i / En.sz]? = some l[i / En.sz] := List.getElem?_eq_getElem hq
        have hz : (En.f l[i / En.sz])[i % En.sz]? = some ((En.f l[i / En.sz])[i % En.sz]'(by rw [En.len]; exact hml)) := List.getElem?_eq_getElem _
        have h1 := En.all_get l _ _ _ _ hy hz
        rw [hdm] at h1
        rw [h1] at hv
        cases hv
        have := (hl2 _ _ hy).2 _ _ hz
        rw [hdm, add_addr a hsp] at this
        exact this
    · obtain ⟨i, hi, rfl⟩ := List.mem_iff_getElem.1 hy
      exact (hl2 i _ (List.getElem?_eq_getElem hi)).1
/-! structs -/
def Enc.pair {α β : Type} (E : Enc α) (F : Enc β) : Enc (α × β) := ⟨E.sz + F.sz, fun p => E.f p.1 ++ F.f p.2, fun p => by rw [List.length_append, E.len, F.len], fun p v h => by
  rcases List.mem_append.1 h with h | h
  · exact E.one _ _ h
  · exact F.one _ _ h, Nat.add_pos_left E.pos _⟩
inductive Flds (P : Program) (W : World) : List Field → Nat → (α : Type) → Enc α → (α → Prop) → Prop
  | one {f : Field} {off : Nat} {α : Type} {E : Enc α} {G : α → Prop} (hd : Dec P W f.type E G) (ho : f.offset = off) (hc : P.cellsOf f.type = E.sz) : Flds P W [f] off α E G
  | cons {f : Field} {fs : List Field} {off off' : Nat} {α β : Type} {E : Enc α} {F : Enc β} {G : α → Prop} {G' : β → Prop} (hd : Dec P W f.type E G) (ho : f.offset = off) (hc : P.cellsOf f.type = E.sz) (hn : off + E.sz = off') (k : Flds P W fs off' β F G') :
    Flds P W (f :: fs) off (α × β) (Enc.pair E F) (fun p => G p.1 ∧ G' p.2)
theorem Flds.dec {fs : List Field} {off : Nat} {α : Type} {E : Enc α} {G : α → Prop} (h : Flds P W fs off α E G) {cs : List Value} :
    (∀ f ∈ fs, ∃ (H : Type) (enc : TypeId × Value → H) (base : Nat) (spare : Nat → Bool) (held : Bool) (fuel : Nat) (x : DataW H × List MemPlace), DataW.trod enc P W base spare held fuel f.type ((cs.drop f.offset).take (P.cellsOf f.type)) = some x) →
    ∃ y, E.f y = (cs.drop off).take E.sz ∧ G y := by
  induction h with
  | one hd ho hc =>
    intro h
    obtain ⟨H, enc, base, spare, held, fuel, x, hx⟩ := h _ (List.mem_singleton.2 rfl)
    obtain ⟨y, hy, hg⟩ := hd _ _ _ _ _ _ _ _ hx
    exact ⟨y, by rw [hy, ho, hc], hg⟩
  | cons hd ho hc hn _ ih =>
    intro h
    obtain ⟨H, enc, base, spare, held, fuel, x, hx⟩ := h _ List.mem_cons_self
    obtain ⟨y, hy, hg⟩ := hd _ _ _ _ _ _ _ _ hx
    obtain ⟨z, hz, hg'⟩ := ih (fun f hf => h f (List.mem_cons_of_mem _ hf))
    refine ⟨(y, z), ?_, hg, hg'⟩
    show _ ++ _ = _
    rw [hy, hz, ho, hc]
    show _ = List.take (_ + _) _
    rw [← hn, List.take_add, List.drop_drop]
theorem dec_struct {fs : Array Field} {α : Type} {E : Enc α} {G : α → Prop} (ht : P.underlying t = some (.struct fs)) (hc : P.cellsOf t = E.sz) (hf : Flds P W fs.toList 0 α E G) : Dec P W t E G := by
  intro H enc base spare held fuel cs x h
  obtain ⟨xs, n, _, _, hl, hxl, hx⟩ := DataW.trod_struct ht h
  obtain ⟨y, hy, hg⟩ := hf.dec (cs := cs) (fun f hf => by
    obtain ⟨i, hi, rfl⟩ := List.mem_iff_getElem.1 hf
    have hi' : i < fs.size := by simpa using hi
    have h1 := hx i fs.toList[i] (by simp [hi'])
    have h2 : xs[i]? = some (xs[i]'(by omega)) := List.getElem?_eq_getElem _
    rw [h2] at h1
    exact ⟨H, enc, base, spare, held, n, _, h1⟩)
  refine ⟨y, ?_, hg⟩
  rw [hy, List.drop_zero, List.take_of_length_le (by omega)]
theorem Dec.map {α β : Type} {E : Enc α} {F : Enc β} {G : α → Prop} {G' : β → Prop} (g : α → β) (he : ∀ x, F.f (g x) = E.f x) (hg : ∀ x, G x → G' (g x)) (h : Dec P W t E G) : Dec P W t F G' := by
  intro H enc base spare held fuel cs x hx
  obtain ⟨y, hy, hk⟩ := h _ _ _ _ _ _ _ _ hx
  exact ⟨g y, by rw [he, hy], hg y hk⟩
/-- A slice that came in. -/
theorem arg_slice {α : Type} {En : Enc α} {Good : α → Prop} {H : Type} {enc : TypeId × Value → H} {base : Nat} {spare : Nat → Bool} {held : Bool} {a : Option Addr} {len cap : Nat} {x : DataW H × List MemPlace} (hd : Dec P W t Enc.hdr (HdrOk W En Good))
    (h : ∃ fuel, DataW.trod enc P W base spare held fuel t (Value.slice a len cap).cells.toList = some x) : HdrOk W En Good (a, len, cap) := by
  obtain ⟨fuel, h⟩ := h
  obtain ⟨⟨a', n', c'⟩, hy, hg⟩ := hd _ _ _ _ _ _ _ _ h
  simp [Value.cells] at hy
  obtain ⟨rfl, rfl, rfl⟩ := hy
  exact hg
end
end Go.SL
