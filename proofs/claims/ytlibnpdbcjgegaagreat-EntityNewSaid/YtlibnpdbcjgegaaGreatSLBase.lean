/-
  From a contract to what the rows ask: all that was there when the call began is never written.
-/
import Derived.Test.YtlibnpdbcjgegaaGreatSLMore
namespace Go.SL
set_option linter.unusedVariables false
open Go.RowKit
/-- All blocks of W, never written. -/
def base (W : World) : HProp := fun f => f = fun b => (W.heap[b]?).map (fun o => (true, o))
theorem sat_base (W : World) : Sat (outer W) W [base W] := by
  refine ⟨rfl, [(base W, fun b => (W.heap[b]?).map (fun o => (true, o)))], rfl, fun p hp => ?_, by simp⟩
  simp only [List.mem_singleton] at hp; subst hp
  refine ⟨rfl, fun b x hb => ?_⟩
  cases h : W.heap[b]? with
  | none => simp [h] at hb
  | some o => simp [h] at hb; subst hb; rfl
theorem Sat.mem {o : Outer} {w : World} {Ps : List HProp} (h : Sat o w Ps) {A : HProp} (hA : A ∈ Ps) : ∃ f, A f ∧ Holds w f := by
  obtain ⟨_, l, h1, h2, _⟩ := h
  subst h1
  obtain ⟨p, hp, rfl⟩ := List.mem_map.1 hA
  exact ⟨p.2, h2 p hp⟩
theorem base_holds {W w : World} {f : Hp} (hf : base W f) (hw : Holds w f) (b : Nat) (hb : b < W.heap.size) : w.heap[b]? = W.heap[b]? := by
  have hb' : W.heap[b]? = some W.heap[b] := Array.getElem?_eq_getElem hb
  rw [hb']
  refine hw b (true, W.heap[b]) ?_
  rw [hf]; simp [hb']
theorem Trip.calls {P : Program} {f : FuncId} {args : List Value} {W : World} {q : Value → List HProp → Prop} (h : Trip P f args [base W] q) (hq : ∀ v Ps, q v Ps → v = .bool true ∧ base W ∈ Ps) :
    Calls P f args.toArray W fun e w' => e = .returned (.bool true) ∧ Below W.heap.size W w' := by
  refine (h.run (outer W) W [] (sat_base W)).mono ?_
  rintro e w' ⟨v, Ps, rfl, hv, hs⟩
  obtain ⟨rfl, hb⟩ := hq v Ps hv
  refine ⟨rfl, ?_⟩
  obtain ⟨f, hf, hw⟩ := hs.mem (List.mem_append_left _ hb)
  have hk := fun k hk => base_holds hf hw k hk
  have ho : outer w' = outer W := hs.1
  simp only [outer, Outer.mk.injEq] at ho
  refine ⟨ho.1, ho.2.1, ho.2.2, ?_, hk⟩
  rcases Nat.eq_zero_or_pos W.heap.size with h0 | h0
  · omega
  · have h1 := (hk (W.heap.size - 1) (by omega)).trans (Array.getElem?_eq_getElem (by omega))
    have h2 := (Array.getElem?_eq_some_iff.1 h1).1; omega
theorem Trip.keep {P : Program} {f : FuncId} {args : List Value} {q : Value → List HProp → Prop} (B : HProp) (h : Trip P f args [] q) : Trip P f args [B] (fun v Ps' => ∃ Ps, q v Ps ∧ Ps' = Ps ++ [B]) := by
  constructor; intro o w Rs hw
  refine (h.run o w (B :: Rs) hw).mono ?_
  rintro e w' ⟨v, Ps, rfl, hq, hs⟩
  exact ⟨v, Ps ++ [B], rfl, ⟨Ps, hq, rfl⟩, by simpa using hs⟩
theorem Trip.calls0 {P : Program} {f : FuncId} {args : List Value} {W : World} {q : Value → List HProp → Prop} (h : Trip P f args [] q) (hq : ∀ v Ps, q v Ps → v = .bool true) :
    Calls P f args.toArray W fun e w' => e = .returned (.bool true) ∧ Below W.heap.size W w' :=
  (h.keep (base W)).calls (fun v Ps' ⟨Ps, h1, h2⟩ => ⟨hq v Ps h1, by rw [h2]; simp⟩)
theorem str_data (s : ByteArray) : str s.data.toList = .string s := by
  cases s; simp [str]
/-- What the memory that was there tells of a slice. -/
theorem reads_base {α : Type} {E : Enc α} {W : World} {A : Option Addr} {xs : List α} (h : xs = [] ∨ ∃ g off, A = some ⟨g, off, none⟩ ∧ ∀ i v, (E.all xs)[i]? = some v → W.cell? ⟨g, off + i, none⟩ = some v) : Reads (base W) E A xs := by
  intro f w hf hw
  rcases h with h | ⟨g, off, hA, hc⟩
  · exact .inl h
  · refine .inr ⟨g, off, hA, fun i v hv => ?_⟩
    have := hc i v hv
    have hlt := World.block_lt_of_cell? W _ this
    rw [World.cell?_of_block (w := W) (base_holds hf hw g hlt)]; exact this
/-- A slice of numbers that came in. -/
theorem reads_ints {W : World} {k : IntKind} {x : Addr} {len : Nat} {zs : List Int} (hl : len ≤ zs.length) (hc : ∀ i, i < zs.length → W.cell? (x.add i) = some (.int k (zs.getD i 0))) :
    Reads (base W) (Enc.int k) (some x) (zs.take len) := by
  by_cases h0 : zs = []
  · subst h0; exact fun f w _ _ => .inl List.take_nil
  have hx : x.spot = none := by
    have h1 := hc 0 (List.length_pos_iff.2 h0)
    have h2 : x.add 0 = x := by simp [Addr.add]
    rw [h2] at h1
    cases hs : x.spot with
    | none => rfl
    | some s => simp only [World.cell?, hs, Option.isSome_some, if_true] at h1; split at h1 <;> cases h1
  refine reads_base (.inr ⟨x.block, x.off, ?_, fun i v hv => ?_⟩)
  · obtain ⟨b, o, s⟩ := x; simp only at hx; subst hx; rfl
  · have h1 : (Enc.int k).all (zs.take len) = (zs.take len).map (Value.int k) := by
      simp only [Enc.all]; induction (zs.take len) with
      | nil => rfl
      | cons a l ih => simp [ih]
    rw [h1, List.getElem?_map] at hv
    cases hz : (zs.take len)[i]? with
    | none => rw [hz] at hv; cases hv
    | some z =>
      rw [hz] at hv
      simp only [Option.map_some, Option.some.injEq] at hv
      subst hv
      have hi := (List.getElem?_eq_some_iff.1 hz).1
      rw [List.length_take] at hi
      have h2 := hc i (by omega)
      rw [add_addr x hx] at h2
      rw [h2]
      congr 2
      rw [List.getElem?_take] at hz
      split at hz
      · simp [List.getD_eq_getElem?_getD, hz]
      · cases hz
end Go.SL
