/-
  A new world in plain terms.
-/
import Derived.Test.YtlibnpdbcjgegaaGreatWdPure
namespace Go.Proofs.YtlibnpdbcjgegaaGreat
open Go.SL
set_option linter.unusedVariables false
set_option linter.unusedSimpArgs false
theorem map_stp {α β : Type} {l : List α} {k : Nat} {i : α} (f : α → β) (h : l[k]? = some i) : (l.take (k + 1)).map f = (l.take k).map f ++ [f i] := by
  rw [List.take_add_one, h, List.map_append]; rfl
def newM (l : List Mpr) : List Mob := l.zipIdx.map fun p => ⟨(p.2 : Int) + 1, p.1.id, p.1.home, p.1.hp⟩
def newI (l : List Shp) : List Till := l.map fun s => ⟨s.room, s.till⟩
def newG (l : List Shp) : Int := (l.map (·.till)).foldl (· + ·) 0
def newW (t : Tab) : Wld := ⟨0, (t.mobs.length : Int) + 1, newG t.shops, [], [], newM t.mobs, [], [], newI t.shops⟩
theorem newM_step {l : List Mpr} {k : Nat} {x : Mpr} (h : l[k]? = some x) : newM (l.take (k + 1)) = newM (l.take k) ++ [⟨(k : Int) + 1, x.id, x.home, x.hp⟩] := by
  have hk := (List.getElem?_eq_some_iff.1 h).1
  rw [List.take_add_one, h]
  simp [newM, List.zipIdx_append, List.length_take, Nat.min_eq_left (Nat.le_of_lt hk)]
theorem newM_len (l : List Mpr) : (newM l).length = l.length := by simp [newM]
theorem newI_step {l : List Shp} {k : Nat} {x : Shp} (h : l[k]? = some x) : newI (l.take (k + 1)) = newI (l.take k) ++ [⟨x.room, x.till⟩] := map_stp _ h
theorem newI_len (l : List Shp) : (newI l).length = l.length := by simp [newI]
theorem newG_step {l : List Shp} {k : Nat} {x : Shp} (h : l[k]? = some x) : newG (l.take (k + 1)) = newG (l.take k) + x.till := by
  rw [newG, map_stp _ h, List.foldl_append]; rfl
theorem newG_le {l : List Shp} (hl : ∀ s ∈ l, 0 ≤ s.till ∧ s.till ≤ 1099511627776) : ∀ (k : Nat), k ≤ l.length → 0 ≤ newG (l.take k) ∧ newG (l.take k) ≤ 1099511627776 * k
  | 0, _ => by simp [newG]
  | k + 1, hk => by
    have h1 := newG_le hl k (by omega)
    have h2 := hl l[k] (List.getElem_mem (by omega))
    rw [newG_step (List.getElem?_eq_getElem (by omega))]; omega
end Go.Proofs.YtlibnpdbcjgegaaGreat
