/-
  The program's tables: a room, a kind of thing, a kind of mobile, by its number.
-/
import Derived.Test.YtckkipangiapbaaGreatEnPure
namespace Go.Proofs.YtckkipangiapbaaGreat
open Go.SL
set_option linter.unusedVariables false
set_option linter.unusedSimpArgs false
set_option maxHeartbeats 8000000
set_option maxRecDepth 20000
def rmD (t : Tab) (id : Int) : Rm := match roomI t id with
  | none => default
  | some k => t.rooms.getD k default
def proD (t : Tab) (id : Int) : Pro := match protoI t id with
  | none => default
  | some k => t.protos.getD k default
def mprD (t : Tab) (id : Int) : Mpr := match mprI t id with
  | none => default
  | some k => t.mobs.getD k default
theorem RoomP_spec (d : Nat) (m : Tay) (t : Tab) (id : Int) (hl : t.rooms.length ≤ 1000000) (P : HProp) [hp : RT P d m t] : Trip Tryz.prog 127 [.pointer (some ⟨d, 0, none⟩), .int .i64 id] [P] (fun v Ps => v = .tuple #[.agg (rmC (rmD t id)).toArray, .bool (roomI t id).isSome] ∧ Ps = [P]) := by
  refine Trip.of (m := 26) Tryz.func127 rfl rfl rfl ?_
  intro o Rs
  simp only [List.cons_append, List.nil_append, enumFrom]
  unfold rmD
  refine go ?_
  refine ⟨?_, by simp⟩ <;> intros
  rename_i o0
  refine loop (fun k => k ≤ t.rooms.length ∧ (t.rooms.take k).findIdx? (fun x => x.id == id) = none) (fun k => [(0, .pointer (some ⟨d, 0, none⟩)), (1, .int .i64 id), (4, .pointer (some ⟨o0, 0, none⟩)), (5, .bool false), (13, .slice m.roA t.rooms.length m.roC), (14, .int .i64 (t.rooms.length : Int)), (15, .int .i64 (k : Int))]) (fun k => blk o0 81 (rmC default) :: P :: Rs) (fun k => t.rooms.length - k) 0 ⟨Nat.zero_le _, find_zero⟩ fun k ⟨h1, h2⟩ => ?_
  by_cases hk : k < t.rooms.length
  · obtain ⟨x, hx⟩ : ∃ x, t.rooms[k]? = some x := ⟨_, List.getElem?_eq_getElem hk⟩
    by_cases h3 : x.id = id
    · have hfi : roomI t id = some k := find_hit h2 hx (by simpa using h3)
      rw [hfi]
      simp only [getD_of hx, Option.isSome_some]
      refine go ?_
      refine ⟨?_, by simp⟩ <;> intros
      rfl
    · refine go ?_
      refine ⟨?_, by simp⟩ <;> intros
      exact rnd (k + 1) ⟨hk, find_miss h2 hx (by simpa using h3)⟩ (by omega)
  · have hfi : roomI t id = none := find_end h2 hk
    rw [hfi]
    simp only [Option.isSome_none]
    refine go ?_
    refine ⟨?_, by simp⟩ <;> intros
    rfl
theorem ProtoP_spec (d : Nat) (m : Tay) (t : Tab) (id : Int) (hl : t.protos.length ≤ 1000000) (P : HProp) [hp : RT P d m t] : Trip Tryz.prog 57 [.pointer (some ⟨d, 0, none⟩), .int .i64 id] [P] (fun v Ps => v = .tuple #[.agg (proC (proD t id)).toArray, .bool (protoI t id).isSome] ∧ Ps = [P]) := by
  refine Trip.of (m := 26) Tryz.func57 rfl rfl rfl ?_
  intro o Rs
  simp only [List.cons_append, List.nil_append, enumFrom]
  unfold proD
  refine go ?_
  refine ⟨?_, by simp⟩ <;> intros
  rename_i o0
  refine loop (fun k => k ≤ t.protos.length ∧ (t.protos.take k).findIdx? (fun x => x.id == id) = none) (fun k => [(0, .pointer (some ⟨d, 0, none⟩)), (1, .int .i64 id), (4, .pointer (some ⟨o0, 0, none⟩)), (5, .bool false), (13, .slice m.prA t.protos.length m.prC), (14, .int .i64 (t.protos.length : Int)), (15, .int .i64 (k : Int))]) (fun k => blk o0 50 (proC default) :: P :: Rs) (fun k => t.protos.length - k) 0 ⟨Nat.zero_le _, find_zero⟩ fun k ⟨h1, h2⟩ => ?_
  by_cases hk : k < t.protos.length
  · obtain ⟨x, hx⟩ : ∃ x, t.protos[k]? = some x := ⟨_, List.getElem?_eq_getElem hk⟩
    by_cases h3 : x.id = id
    · have hfi : protoI t id = some k := find_hit h2 hx (by simpa using h3)
      rw [hfi]
      simp only [getD_of hx, Option.isSome_some]
      refine go ?_
      refine ⟨?_, by simp⟩ <;> intros
      rfl
    · refine go ?_
      refine ⟨?_, by simp⟩ <;> intros
      exact rnd (k + 1) ⟨hk, find_miss h2 hx (by simpa using h3)⟩ (by omega)
  · have hfi : protoI t id = none := find_end h2 hk
    rw [hfi]
    simp only [Option.isSome_none]
    refine go ?_
    refine ⟨?_, by simp⟩ <;> intros
    rfl
theorem MobP_spec (d : Nat) (m : Tay) (t : Tab) (id : Int) (hl : t.mobs.length ≤ 1000000) (P : HProp) [hp : RT P d m t] : Trip Tryz.prog 76 [.pointer (some ⟨d, 0, none⟩), .int .i64 id] [P] (fun v Ps => v = .tuple #[.agg (mprC (mprD t id)).toArray, .bool (mprI t id).isSome] ∧ Ps = [P]) := by
  refine Trip.of (m := 26) Tryz.func76 rfl rfl rfl ?_
  intro o Rs
  simp only [List.cons_append, List.nil_append, enumFrom]
  unfold mprD
  refine go ?_
  refine ⟨?_, by simp⟩ <;> intros
  rename_i o0
  refine loop (fun k => k ≤ t.mobs.length ∧ (t.mobs.take k).findIdx? (fun x => x.id == id) = none) (fun k => [(0, .pointer (some ⟨d, 0, none⟩)), (1, .int .i64 id), (4, .pointer (some ⟨o0, 0, none⟩)), (5, .bool false), (13, .slice m.moA t.mobs.length m.moC), (14, .int .i64 (t.mobs.length : Int)), (15, .int .i64 (k : Int))]) (fun k => blk o0 72 (mprC default) :: P :: Rs) (fun k => t.mobs.length - k) 0 ⟨Nat.zero_le _, find_zero⟩ fun k ⟨h1, h2⟩ => ?_
  by_cases hk : k < t.mobs.length
  · obtain ⟨x, hx⟩ : ∃ x, t.mobs[k]? = some x := ⟨_, List.getElem?_eq_getElem hk⟩
    by_cases h3 : x.id = id
    · have hfi : mprI t id = some k := find_hit h2 hx (by simpa using h3)
      rw [hfi]
      simp only [getD_of hx, Option.isSome_some]
      refine go ?_
      refine ⟨?_, by simp⟩ <;> intros
      rfl
    · refine go ?_
      refine ⟨?_, by simp⟩ <;> intros
      exact rnd (k + 1) ⟨hk, find_miss h2 hx (by simpa using h3)⟩ (by omega)
  · have hfi : mprI t id = none := find_end h2 hk
    rw [hfi]
    simp only [Option.isSome_none]
    refine go ?_
    refine ⟨?_, by simp⟩ <;> intros
    rfl
end Go.Proofs.YtckkipangiapbaaGreat
