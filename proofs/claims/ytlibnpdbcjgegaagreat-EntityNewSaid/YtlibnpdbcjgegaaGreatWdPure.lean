/-
  The document's layers 13 to 25 in plain terms: who and what is where, what one does.
-/
import Derived.Test.YtlibnpdbcjgegaaGreatWdTab
namespace Go.Proofs.YtlibnpdbcjgegaaGreat
set_option linter.unusedVariables false
set_option linter.unusedSimpArgs false
deriving instance Inhabited for Chr, Thg, Mob, Hse, Lot, Till, Wld
/-! places in lists -/
def iv : Option Nat → Int
  | some i => i
  | none => -1
theorem find_hit {α : Type} {p : α → Bool} {l : List α} {k : Nat} {x : α} (h : (l.take k).findIdx? p = none) (hx : l[k]? = some x) (hp : p x = true) : l.findIdx? p = some k := by
  obtain ⟨hk, rfl⟩ := List.getElem?_eq_some_iff.1 hx
  rw [List.findIdx?_eq_none_iff] at h
  rw [List.findIdx?_eq_some_iff_getElem]
  refine ⟨hk, hp, fun j hj => ?_⟩
  have := h l[j] (by rw [List.mem_take_iff_getElem]; exact ⟨j, by omega, rfl⟩)
  simp [this]
theorem find_miss {α : Type} {p : α → Bool} {l : List α} {k : Nat} {x : α} (h : (l.take k).findIdx? p = none) (hx : l[k]? = some x) (hp : p x = false) : (l.take (k + 1)).findIdx? p = none := by
  rw [List.findIdx?_eq_none_iff] at h ⊢
  intro y hy
  rw [List.take_add_one, hx] at hy
  simp only [Option.toList_some, List.mem_append, List.mem_singleton] at hy
  rcases hy with hy | rfl
  · exact h y hy
  · exact hp
theorem find_zero {α : Type} {p : α → Bool} {l : List α} : (l.take 0).findIdx? p = none := by simp
theorem find_end {α : Type} {p : α → Bool} {l : List α} {k : Nat} (h : (l.take k).findIdx? p = none) (hk : ¬ k < l.length) : l.findIdx? p = none := by
  rwa [List.take_of_length_le (by omega)] at h
theorem find_get {α : Type} {p : α → Bool} {l : List α} {k : Nat} (h : l.findIdx? p = some k) : ∃ x, l[k]? = some x ∧ p x = true := by
  obtain ⟨hk, hp, _⟩ := List.findIdx?_eq_some_iff_getElem.1 h
  exact ⟨l[k], List.getElem?_eq_getElem hk, hp⟩
theorem find_lt {α : Type} {p : α → Bool} {l : List α} {k : Nat} (h : l.findIdx? p = some k) : k < l.length := (List.findIdx?_eq_some_iff_getElem.1 h).1
/-- The places of those that p holds of. -/
def pos {α : Type} (p : α → Bool) (l : List α) : List Nat := (l.zipIdx.filter fun x => p x.1).map (·.2)
def ints (l : List Nat) : List Int := l.map Int.ofNat
theorem pos_snoc {α : Type} {p : α → Bool} {l : List α} {k : Nat} {x : α} (hx : l[k]? = some x) : pos p (l.take (k + 1)) = pos p (l.take k) ++ if p x then [k] else [] := by
  obtain ⟨hk, rfl⟩ := List.getElem?_eq_some_iff.1 hx
  rw [List.take_add_one, hx]
  simp only [Option.toList_some, pos, List.zipIdx_append, List.filter_append, List.map_append, List.length_take, Nat.zero_add, Nat.min_eq_left (Nat.le_of_lt hk)]
  congr 1
  simp only [List.zipIdx_cons, List.zipIdx_nil, List.filter_cons, List.filter_nil]
  split <;> simp
theorem pos_yes {α : Type} {p : α → Bool} {l : List α} {k : Nat} {x : α} (hx : l[k]? = some x) (hp : p x = true) : ints (pos p (l.take (k + 1))) = ints (pos p (l.take k)) ++ [(k : Int)] := by
  rw [pos_snoc hx, hp]; simp [ints]
theorem pos_no {α : Type} {p : α → Bool} {l : List α} {k : Nat} {x : α} (hx : l[k]? = some x) (hp : p x = false) : ints (pos p (l.take (k + 1))) = ints (pos p (l.take k)) := by
  rw [pos_snoc hx, hp]; simp [ints]
theorem pos_zero {α : Type} {p : α → Bool} {l : List α} : pos p (l.take 0) = [] := by simp [pos]
theorem pos_end {α : Type} {p : α → Bool} {l : List α} {k : Nat} (hk : ¬ k < l.length) : pos p (l.take k) = pos p l := by rw [List.take_of_length_le (by omega)]
theorem pos_mem {α : Type} {p : α → Bool} {l : List α} {k : Nat} (h : k ∈ pos p l) : ∃ x, l[k]? = some x ∧ p x = true := by
  simp only [pos, List.mem_map, List.mem_filter] at h
  obtain ⟨⟨x, i⟩, ⟨h1, h2⟩, rfl⟩ := h
  have := List.mem_zipIdx_iff_getElem?.1 h1
  exact ⟨x, this, h2⟩
theorem pos_len {α : Type} (p : α → Bool) (l : List α) : (pos p l).length ≤ l.length := by
  rw [pos, List.length_map]
  exact Nat.le_trans (List.length_filter_le _ _) (by rw [List.length_zipIdx]; exact Nat.le_refl _)
theorem pos_map {α : Type} [Inhabited α] (p : α → Bool) (l : List α) : (pos p l).map (fun k => l.getD k default) = l.filter p := by
  have key : ∀ k, k ≤ l.length → (pos p (l.take k)).map (fun k => l.getD k default) = (l.take k).filter p := by
    intro k
    induction k with
    | zero => intro _; simp [pos]
    | succ k ih =>
      intro hk
      have hx : l[k]? = some l[k] := List.getElem?_eq_getElem hk
      rw [pos_snoc hx, List.take_add_one, hx, List.map_append, ih (by omega), List.filter_append]
      congr 1
      simp only [Option.toList_some, List.filter_cons, List.filter_nil]
      split
      · simp [List.getD, hx]
      · simp
  have := key l.length (Nat.le_refl _)
  rwa [List.take_length] at this
/-! tables -/
def roomI (t : Tab) (id : Int) : Option Nat := t.rooms.findIdx? (·.id == id)
def protoI (t : Tab) (id : Int) : Option Nat := t.protos.findIdx? (·.id == id)
def mprI (t : Tab) (id : Int) : Option Nat := t.mobs.findIdx? (·.id == id)
def questI (t : Tab) (id : Int) : Option Nat := t.quests.findIdx? (·.id == id)
def kindN (t : Tab) (proto : Int) : Tx := match protoI t proto with
  | some k => (t.protos.getD k default).name
  | none => []
def startR (t : Tab) : Int := match t.rooms with
  | [] => 0
  | r :: _ => r.id
/-! worlds -/
def charI (w : Wld) (name : Tx) : Option Nat := w.chars.findIdx? (·.name == name)
def thingI (w : Wld) (id : Int) : Option Nat := w.things.findIdx? (·.id == id)
def mobI (w : Wld) (id : Int) : Option Nat := w.mobs.findIdx? (·.id == id)
def hereL (w : Wld) (room : Int) : List Nat := pos (fun x : Thg => x.place == 1 && x.room == room) w.things
def ofL (w : Wld) (name : Tx) (place : Int) : List Nat := pos (fun x : Thg => (x.place == 2 || x.place == 3) && x.place == place && x.who == name) w.things
def mobsL (w : Wld) (room : Int) : List Nat := pos (fun x : Mob => x.room == room) w.mobs
def whoL (w : Wld) (room : Int) : List Nat := pos (fun x : Chr => x.on && x.room == room) w.chars
def onI (w : Wld) (name : Tx) : Option Nat := match charI w name with
  | some k => if (w.chars.getD k default).on then some k else none
  | none => none
def levelN (xp : Int) : Int := 1 + (if xp < 0 then 0 else xp) / 100
def maxHpN (xp : Int) : Int := 20 + 5 * (levelN xp - 1)
def loadN (w : Wld) (name : Tx) : Nat := (ofL w name 2).length + (ofL w name 3).length
def capT : Tx → Tx
  | [] => []
  | c :: r => (if 97 ≤ c.toNat ∧ c.toNat ≤ 122 then c - 32 else c) :: r
/-! what is said -/
def oth (w : Wld) (but text : Tx) (l : List Nat) : List Sy := (l.filter fun i => !((w.chars.getD i default).name == but)).map fun i => ((w.chars.getD i default).name, text)
def othersL (w : Wld) (room : Int) (but text : Tx) : List Sy := oth w but text (whoL w room)
theorem oth_step {w : Wld} {but text : Tx} {l : List Nat} {k i : Nat} {x : Chr} (hi : l[k]? = some i) (hx : w.chars[i]? = some x) : oth w but text (l.take (k + 1)) = oth w but text (l.take k) ++ if x.name = but then [] else [(x.name, text)] := by
  rw [List.take_add_one, hi]
  simp only [oth, Option.toList_some, List.filter_append, List.map_append]
  congr 1
  by_cases h : x.name = but
  · simp [List.getD, hx, h]
  · simp [List.getD, hx, h]
theorem oth_len (w : Wld) (but text : Tx) (l : List Nat) : (oth w but text l).length ≤ l.length := by
  rw [oth, List.length_map]; exact List.length_filter_le _ _
theorem ints_get {l : List Nat} {k i : Nat} (h : l[k]? = some i) : (ints l)[k]? = some (i : Int) := by simp [ints, h]
theorem ints_len (l : List Nat) : (ints l).length = l.length := by simp [ints]
theorem getD_of {α : Type} [Inhabited α] {l : List α} {k : Nat} {x : α} (h : l[k]? = some x) : l.getD k default = x := by simp [List.getD, h]
theorem who_mem {w : Wld} {room : Int} {k i : Nat} (h : (whoL w room)[k]? = some i) : ∃ x, w.chars[i]? = some x ∧ x.on = true ∧ x.room = room := by
  obtain ⟨x, hx, hp⟩ := pos_mem (List.mem_of_getElem? h)
  simp only [Bool.and_eq_true, beq_iff_eq] at hp
  exact ⟨x, hx, hp⟩
end Go.Proofs.YtlibnpdbcjgegaaGreat
