/-
  The document's comparison of two worlds that are the same.
  The program's worlds: no tables, no world.
-/
import Derived.Test.YtlibnpdbcjgegaaGreatWdPure
import Derived.Test.YtlibnpdbcjgegaaGreatWoCopy
import Derived.Test.YtlibnpdbcjgegaaGreatEnPure
namespace Go.Proofs.YtlibnpdbcjgegaaGreat
open Go.SL
set_option linter.unusedVariables false
set_option linter.unusedSimpArgs false
set_option maxHeartbeats 8000000
set_option maxRecDepth 20000
theorem ints_same (a : List Int) (A B : Option Addr) (ca cb : Nat) (P Q : HProp) (hP : Reads P E64 A a) (hQ : Reads Q E64 B a) (hl : a.length ≤ 1000000) :
    Trip Tryz.prog 50 [.slice A a.length ca, .slice B a.length cb] [P, Q] (fun v Ps => v = .bool true ∧ Ps = [P, Q]) := by
  refine Trip.of (m := 26) Tryz.func50 rfl rfl rfl ?_
  intro o Rs
  simp only [List.cons_append, List.nil_append, enumFrom]
  refine go ?_
  refine ⟨?_, by simp⟩ <;> intros
  refine loop (fun k => k ≤ a.length) (fun k => [(0, .slice A a.length ca), (1, .slice B a.length cb), (5, .int .i64 (k : Int))]) (fun k => P :: Q :: Rs) (fun k => a.length - k) 0 (Nat.zero_le _) fun k h1 => ?_
  by_cases hk : k < a.length
  · obtain ⟨x, hx⟩ : ∃ x, a[k]? = some x := ⟨_, List.getElem?_eq_getElem hk⟩
    refine go ?_
    refine ⟨?_, by simp⟩ <;> intros
    exact rnd (k + 1) hk (by omega)
  · refine go ?_
    simp
theorem texts_same (a : List Tx) (A B : Option Addr) (ca cb : Nat) (P Q : HProp) (hP : Reads P Enc.str A a) (hQ : Reads Q Enc.str B a) (hl : a.length ≤ 1000000) :
    Trip Tryz.prog 51 [.slice A a.length ca, .slice B a.length cb] [P, Q] (fun v Ps => v = .bool true ∧ Ps = [P, Q]) := by
  refine Trip.of (m := 26) Tryz.func51 rfl rfl rfl ?_
  intro o Rs
  simp only [List.cons_append, List.nil_append, enumFrom]
  refine go ?_
  refine ⟨?_, by simp⟩ <;> intros
  refine loop (fun k => k ≤ a.length) (fun k => [(0, .slice A a.length ca), (1, .slice B a.length cb), (5, .int .i64 (k : Int))]) (fun k => P :: Q :: Rs) (fun k => a.length - k) 0 (Nat.zero_le _) fun k h1 => ?_
  by_cases hk : k < a.length
  · obtain ⟨x, hx⟩ : ∃ x, a[k]? = some x := ⟨_, List.getElem?_eq_getElem hk⟩
    refine go ?_
    refine ⟨?_, by simp⟩ <;> intros
    exact rnd (k + 1) hk (by omega)
  · refine go ?_
    simp
/-- Lists that are not too long. -/
structure Sml (w : Wld) : Prop where
  c : w.chars.length ≤ 1000000
  t : w.things.length ≤ 1000000
  m : w.mobs.length ≤ 1000000
  h : w.houses.length ≤ 1000000
  l : w.lots.length ≤ 1000000
  i : w.tills.length ≤ 1000000
  d : ∀ x ∈ w.chars, x.done.length ≤ 1000000
  g : ∀ x ∈ w.houses, x.guests.length ≤ 1000000
theorem EqSame_spec (da db : Nat) (ma mb : Lay) (a : Wld) (sm : Sml a) (P Q : HProp) [hp : RW P da ma a] [hq : RW Q db mb a] (la : Laid ma a) (lb : Laid mb a) :
    Trip Tryz.prog 11 [.pointer (some ⟨da, 0, none⟩), .pointer (some ⟨db, 0, none⟩)] [P, Q] (fun v Ps => v = .bool true ∧ Ps = [P, Q]) := by
  refine Trip.of (m := 504) Tryz.func11 rfl rfl rfl ?_
  intro o Rs
  simp only [List.cons_append, List.nil_append, enumFrom]
  haveI : Plans 8 [154, 157, 161, 164] [14, 15, 16, 17] [[0, 1, 2, 3, 4, 5, 6, 7, 8, 9, 10, 11, 12, 13, 14, 15, 16, 17], [0, 1, 2, 3, 4, 5, 6, 7, 8, 9, 10, 11, 12, 13, 15, 14, 16, 17]] := ⟨⟩
  haveI : Plans 14 [246, 249, 253, 256] [14, 15, 16, 17] [[0, 1, 2, 3, 4, 5, 6, 7, 8, 9, 10, 11, 12, 13, 14, 15, 16, 17], [0, 1, 2, 3, 4, 5, 6, 7, 8, 9, 10, 11, 12, 13, 15, 14, 16, 17]] := ⟨⟩
  haveI : Plans 20 [302, 305, 309, 312] [14, 15, 16, 17] [[0, 1, 2, 3, 4, 5, 6, 7, 8, 9, 10, 11, 12, 13, 14, 15, 16, 17], [0, 1, 2, 3, 4, 5, 6, 7, 8, 9, 10, 11, 12, 13, 15, 14, 16, 17]] := ⟨⟩
  haveI : Plans 26 [351, 354, 358, 361] [14, 15, 16, 17] [[0, 1, 2, 3, 4, 5, 6, 7, 8, 9, 10, 11, 12, 13, 14, 15, 16, 17], [0, 1, 2, 3, 4, 5, 6, 7, 8, 9, 10, 11, 12, 13, 15, 14, 16, 17]] := ⟨⟩
  haveI : Plans 32 [401, 404, 408, 411] [14, 15, 16, 17] [[0, 1, 2, 3, 4, 5, 6, 7, 8, 9, 10, 11, 12, 13, 14, 15, 16, 17], [0, 1, 2, 3, 4, 5, 6, 7, 8, 9, 10, 11, 12, 13, 15, 14, 16, 17]] := ⟨⟩
  obtain ⟨a1, a2, a3, a4, a5, a6, a7, a8⟩ := sm
  have zca : a.chars.length = (a.chars.zip ma.dn).length := by simp [la.1]
  have zcb : a.chars.length = (a.chars.zip mb.dn).length := by simp [lb.1]
  have zha : a.houses.length = (a.houses.zip ma.gs).length := by simp [la.2]
  have zhb : a.houses.length = (a.houses.zip mb.gs).length := by simp [lb.2]
  refine go ?_
  refine ⟨?_, by simp⟩ <;> intros
  refine loop (fun k => k ≤ a.chars.length) (fun k => [(0, .pointer (some ⟨da, 0, none⟩)), (1, .pointer (some ⟨db, 0, none⟩)), (5, .int .i64 (k : Int))]) (fun k => P :: Q :: Rs) (fun k => a.chars.length - k) 0 (Nat.zero_le _) fun k h1 => ?_
  by_cases hk : k < a.chars.length
  case pos =>
    obtain ⟨x, hx⟩ : ∃ x, a.chars[k]? = some x := ⟨_, List.getElem?_eq_getElem hk⟩
    obtain ⟨g, hz, _⟩ := zip_get hx la.1
    obtain ⟨g', hz', _⟩ := zip_get hx lb.1
    have F1 := ints_same x.done g.1 g'.1 g.2 g'.2 P Q (hp.dn _ (List.mem_of_getElem? hz)) (hq.dn _ (List.mem_of_getElem? hz')) (a7 _ (List.mem_of_getElem? hx))
    refine go ?_
    (repeat' (first | exact trivial | apply And.intro | intro _))
    all_goals exact rnd (k + 1) hk (by omega)
  clear h1
  refine go ?_
  refine ⟨?_, by simp⟩ <;> intros
  clear hk
  refine loop (fun k => k ≤ a.things.length) (fun k => [(0, .pointer (some ⟨da, 0, none⟩)), (1, .pointer (some ⟨db, 0, none⟩)), (8, .int .i64 (k : Int))]) (fun k => P :: Q :: Rs) (fun k => a.things.length - k) 0 (Nat.zero_le _) fun k h1 => ?_
  by_cases hk : k < a.things.length
  case pos =>
    obtain ⟨x, hx⟩ : ∃ x, a.things[k]? = some x := ⟨_, List.getElem?_eq_getElem hk⟩
    refine go ?_
    (repeat' (first | exact trivial | apply And.intro | intro _))
    all_goals exact rnd (k + 1) hk (by omega)
  clear h1
  refine go ?_
  refine ⟨?_, by simp⟩ <;> intros
  clear hk
  refine loop (fun k => k ≤ a.mobs.length) (fun k => [(0, .pointer (some ⟨da, 0, none⟩)), (1, .pointer (some ⟨db, 0, none⟩)), (11, .int .i64 (k : Int))]) (fun k => P :: Q :: Rs) (fun k => a.mobs.length - k) 0 (Nat.zero_le _) fun k h1 => ?_
  by_cases hk : k < a.mobs.length
  case pos =>
    obtain ⟨x, hx⟩ : ∃ x, a.mobs[k]? = some x := ⟨_, List.getElem?_eq_getElem hk⟩
    refine go ?_
    (repeat' (first | exact trivial | apply And.intro | intro _))
    all_goals exact rnd (k + 1) hk (by omega)
  clear h1
  refine go ?_
  refine ⟨?_, by simp⟩ <;> intros
  clear hk
  refine loop (fun k => k ≤ a.houses.length) (fun k => [(0, .pointer (some ⟨da, 0, none⟩)), (1, .pointer (some ⟨db, 0, none⟩)), (14, .int .i64 (k : Int))]) (fun k => P :: Q :: Rs) (fun k => a.houses.length - k) 0 (Nat.zero_le _) fun k h1 => ?_
  by_cases hk : k < a.houses.length
  case pos =>
    obtain ⟨x, hx⟩ : ∃ x, a.houses[k]? = some x := ⟨_, List.getElem?_eq_getElem hk⟩
    obtain ⟨g, hz, _⟩ := zip_get hx la.2
    obtain ⟨g', hz', _⟩ := zip_get hx lb.2
    have F1 := texts_same x.guests g.1 g'.1 g.2 g'.2 P Q (hp.gs _ (List.mem_of_getElem? hz)) (hq.gs _ (List.mem_of_getElem? hz')) (a8 _ (List.mem_of_getElem? hx))
    refine go ?_
    (repeat' (first | exact trivial | apply And.intro | intro _))
    all_goals exact rnd (k + 1) hk (by omega)
  clear h1
  refine go ?_
  refine ⟨?_, by simp⟩ <;> intros
  clear hk
  refine loop (fun k => k ≤ a.lots.length) (fun k => [(0, .pointer (some ⟨da, 0, none⟩)), (1, .pointer (some ⟨db, 0, none⟩)), (17, .int .i64 (k : Int))]) (fun k => P :: Q :: Rs) (fun k => a.lots.length - k) 0 (Nat.zero_le _) fun k h1 => ?_
  by_cases hk : k < a.lots.length
  case pos =>
    obtain ⟨x, hx⟩ : ∃ x, a.lots[k]? = some x := ⟨_, List.getElem?_eq_getElem hk⟩
    refine go ?_
    (repeat' (first | exact trivial | apply And.intro | intro _))
    all_goals exact rnd (k + 1) hk (by omega)
  clear h1
  refine go ?_
  refine ⟨?_, by simp⟩ <;> intros
  clear hk
  refine loop (fun k => k ≤ a.tills.length) (fun k => [(0, .pointer (some ⟨da, 0, none⟩)), (1, .pointer (some ⟨db, 0, none⟩)), (20, .int .i64 (k : Int))]) (fun k => P :: Q :: Rs) (fun k => a.tills.length - k) 0 (Nat.zero_le _) fun k h1 => ?_
  by_cases hk : k < a.tills.length
  case pos =>
    obtain ⟨x, hx⟩ : ∃ x, a.tills[k]? = some x := ⟨_, List.getElem?_eq_getElem hk⟩
    refine go ?_
    (repeat' (first | exact trivial | apply And.intro | intro _))
    all_goals exact rnd (k + 1) hk (by omega)
  refine go ?_
  simp
end Go.Proofs.YtlibnpdbcjgegaaGreat
namespace Go.Proofs.YtlibnpdbcjgegaaGreat
open Go.SL
set_option linter.unusedVariables false
set_option linter.unusedSimpArgs false
set_option maxHeartbeats 8000000
set_option maxRecDepth 20000
instance : IfaceTy Tryz.prog 74 := .of (by kernel_rfl)
instance : NotIface Tryz.prog 210 := ⟨fun _ _ => by kernel_rfl⟩
instance : NotIface Tryz.prog 27 := ⟨fun _ _ => by kernel_rfl⟩
instance : Callable Tryz.prog 108 := .of (by kernel_rfl)
instance : StructTy Tryz.prog 212 [.string ByteArray.empty, .nilIface] [(0, 1), (1, 1)] := .of (by kernel_rfl)
instance : One Tryz.prog 74 := .of (by kernel_rfl)
theorem WrapE_spec (what : Tx) (k : Int) : Trip Tryz.prog 108 [str what, .iface 27 (.int .i64 k)] [] (fun u Ps => ∃ b, u = .iface 210 (.pointer (some ⟨b, 0, none⟩)) ∧ Ps = []) := by
  refine Trip.of (m := 12) Tryz.func108 rfl rfl rfl ?_
  intro o Rs
  simp only [List.cons_append, List.nil_append, enumFrom]
  (repeat (first | refine W.move rfl rfl ?_ | refine W.nilCheck rfl rfl ?_ | (apply W.field; exact rfl; ((try simp only [Nat.zero_add, Nat.add_zero, Nat.reduceAdd]); exact rfl); exact rfl) | (apply W.load; exact rfl; (focus (with_reducible iterate 40 first | done | exact .here | apply Find.there); done); exact rfl; exact rfl; exact rfl) | refine W.assign rfl rfl ?_ | refine W.nil ?_ | refine E.then_normal ?_ | refine C.seq ?_ | refine C.region ?_ | (apply W.store; exact rfl; exact rfl; exact rfl; (focus (with_reducible iterate 40 first | done | exact .here | apply Find.there); done); (focus (iterate 40 first | done | exact .here | apply SetAt.there); done); (first | exact Keep.nil | (focus ((repeat (first | exact Incl.nil | (apply Incl.cons; (focus (with_reducible iterate 40 first | done | exact .here | apply Find.there); done)))); first | done | fail)) | (focus (apply Keep.incl; (repeat (first | exact Incl.nil | (apply Incl.cons; (focus (with_reducible iterate 40 first | done | exact .here | apply Find.there); done)))); first | done | fail)) | exact Keep.free (by kernel_rfl))) | refine C.cond_true rfl ?_ | refine C.cond_false rfl ?_ | refine C.block ?_ | refine C.skip ?_ | refine C.ret ?_ | refine C.exit ?_ | refine W.guard_yes rfl rfl ?_ | refine W.guard_no rfl rfl rfl rfl ?_ | refine W.pick_true rfl rfl rfl ?_ | refine W.pick_false rfl rfl rfl ?_ | refine W.len_slice rfl rfl ?_ | refine W.len_str rfl rfl ?_ | refine W.extract rfl rfl rfl ?_ | refine W.not rfl rfl ?_ | (apply W.alloc_agg; exact rfl; (first | exact Keep.nil | (focus ((repeat (first | exact Incl.nil | (apply Incl.cons; (focus (with_reducible iterate 40 first | done | exact .here | apply Find.there); done)))); first | done | fail)) | (focus (apply Keep.incl; (repeat (first | exact Incl.nil | (apply Incl.cons; (focus (with_reducible iterate 40 first | done | exact .here | apply Find.there); done)))); first | done | fail)) | exact Keep.free (by kernel_rfl)); intro _) | (apply W.alloc1; exact rfl; exact rfl; (first | exact Keep.nil | (focus ((repeat (first | exact Incl.nil | (apply Incl.cons; (focus (with_reducible iterate 40 first | done | exact .here | apply Find.there); done)))); first | done | fail)) | (focus (apply Keep.incl; (repeat (first | exact Incl.nil | (apply Incl.cons; (focus (with_reducible iterate 40 first | done | exact .here | apply Find.there); done)))); first | done | fail)) | exact Keep.free (by kernel_rfl)); intro _) | (apply W.alloc; exact rfl; (first | exact Keep.nil | (focus ((repeat (first | exact Incl.nil | (apply Incl.cons; (focus (with_reducible iterate 40 first | done | exact .here | apply Find.there); done)))); first | done | fail)) | (focus (apply Keep.incl; (repeat (first | exact Incl.nil | (apply Incl.cons; (focus (with_reducible iterate 40 first | done | exact .here | apply Find.there); done)))); first | done | fail)) | exact Keep.free (by kernel_rfl)); intro _) | (apply W.box_agg; exact rfl; exact rfl; (first | exact Keep.nil | (focus ((repeat (first | exact Incl.nil | (apply Incl.cons; (focus (with_reducible iterate 40 first | done | exact .here | apply Find.there); done)))); first | done | fail)) | (focus (apply Keep.incl; (repeat (first | exact Incl.nil | (apply Incl.cons; (focus (with_reducible iterate 40 first | done | exact .here | apply Find.there); done)))); first | done | fail)) | exact Keep.free (by kernel_rfl)); intro _) | (apply W.box1; exact rfl; exact rfl; exact rfl; (first | exact Keep.nil | (focus ((repeat (first | exact Incl.nil | (apply Incl.cons; (focus (with_reducible iterate 40 first | done | exact .here | apply Find.there); done)))); first | done | fail)) | (focus (apply Keep.incl; (repeat (first | exact Incl.nil | (apply Incl.cons; (focus (with_reducible iterate 40 first | done | exact .here | apply Find.there); done)))); first | done | fail)) | exact Keep.free (by kernel_rfl)); intro _) | (apply W.box; exact rfl; exact rfl; (first | exact Keep.nil | (focus ((repeat (first | exact Incl.nil | (apply Incl.cons; (focus (with_reducible iterate 40 first | done | exact .here | apply Find.there); done)))); first | done | fail)) | (focus (apply Keep.incl; (repeat (first | exact Incl.nil | (apply Incl.cons; (focus (with_reducible iterate 40 first | done | exact .here | apply Find.there); done)))); first | done | fail)) | exact Keep.free (by kernel_rfl)); intro _) | refine E.then_exit ?_ | refine E.then_ret ?_ | refine E.block_normal ?_ | refine E.block_ret ?_ | refine E.block_exit ?_ | refine E.block_past rfl ?_))
  refine W.iface_nil rfl (.val _ _) rfl rfl ?_
  (repeat (first | refine W.move rfl rfl ?_ | refine W.nilCheck rfl rfl ?_ | (apply W.field; exact rfl; ((try simp only [Nat.zero_add, Nat.add_zero, Nat.reduceAdd]); exact rfl); exact rfl) | (apply W.load; exact rfl; (focus (with_reducible iterate 40 first | done | exact .here | apply Find.there); done); exact rfl; exact rfl; exact rfl) | refine W.assign rfl rfl ?_ | refine W.nil ?_ | refine E.then_normal ?_ | refine C.seq ?_ | refine C.region ?_ | (apply W.store; exact rfl; exact rfl; exact rfl; (focus (with_reducible iterate 40 first | done | exact .here | apply Find.there); done); (focus (iterate 40 first | done | exact .here | apply SetAt.there); done); (first | exact Keep.nil | (focus ((repeat (first | exact Incl.nil | (apply Incl.cons; (focus (with_reducible iterate 40 first | done | exact .here | apply Find.there); done)))); first | done | fail)) | (focus (apply Keep.incl; (repeat (first | exact Incl.nil | (apply Incl.cons; (focus (with_reducible iterate 40 first | done | exact .here | apply Find.there); done)))); first | done | fail)) | exact Keep.free (by kernel_rfl))) | refine C.cond_true rfl ?_ | refine C.cond_false rfl ?_ | refine C.block ?_ | refine C.skip ?_ | refine C.ret ?_ | refine C.exit ?_ | refine W.guard_yes rfl rfl ?_ | refine W.guard_no rfl rfl rfl rfl ?_ | refine W.pick_true rfl rfl rfl ?_ | refine W.pick_false rfl rfl rfl ?_ | refine W.len_slice rfl rfl ?_ | refine W.len_str rfl rfl ?_ | refine W.extract rfl rfl rfl ?_ | refine W.not rfl rfl ?_ | (apply W.alloc_agg; exact rfl; (first | exact Keep.nil | (focus ((repeat (first | exact Incl.nil | (apply Incl.cons; (focus (with_reducible iterate 40 first | done | exact .here | apply Find.there); done)))); first | done | fail)) | (focus (apply Keep.incl; (repeat (first | exact Incl.nil | (apply Incl.cons; (focus (with_reducible iterate 40 first | done | exact .here | apply Find.there); done)))); first | done | fail)) | exact Keep.free (by kernel_rfl)); intro _) | (apply W.alloc1; exact rfl; exact rfl; (first | exact Keep.nil | (focus ((repeat (first | exact Incl.nil | (apply Incl.cons; (focus (with_reducible iterate 40 first | done | exact .here | apply Find.there); done)))); first | done | fail)) | (focus (apply Keep.incl; (repeat (first | exact Incl.nil | (apply Incl.cons; (focus (with_reducible iterate 40 first | done | exact .here | apply Find.there); done)))); first | done | fail)) | exact Keep.free (by kernel_rfl)); intro _) | (apply W.alloc; exact rfl; (first | exact Keep.nil | (focus ((repeat (first | exact Incl.nil | (apply Incl.cons; (focus (with_reducible iterate 40 first | done | exact .here | apply Find.there); done)))); first | done | fail)) | (focus (apply Keep.incl; (repeat (first | exact Incl.nil | (apply Incl.cons; (focus (with_reducible iterate 40 first | done | exact .here | apply Find.there); done)))); first | done | fail)) | exact Keep.free (by kernel_rfl)); intro _) | (apply W.box_agg; exact rfl; exact rfl; (first | exact Keep.nil | (focus ((repeat (first | exact Incl.nil | (apply Incl.cons; (focus (with_reducible iterate 40 first | done | exact .here | apply Find.there); done)))); first | done | fail)) | (focus (apply Keep.incl; (repeat (first | exact Incl.nil | (apply Incl.cons; (focus (with_reducible iterate 40 first | done | exact .here | apply Find.there); done)))); first | done | fail)) | exact Keep.free (by kernel_rfl)); intro _) | (apply W.box1; exact rfl; exact rfl; exact rfl; (first | exact Keep.nil | (focus ((repeat (first | exact Incl.nil | (apply Incl.cons; (focus (with_reducible iterate 40 first | done | exact .here | apply Find.there); done)))); first | done | fail)) | (focus (apply Keep.incl; (repeat (first | exact Incl.nil | (apply Incl.cons; (focus (with_reducible iterate 40 first | done | exact .here | apply Find.there); done)))); first | done | fail)) | exact Keep.free (by kernel_rfl)); intro _) | (apply W.box; exact rfl; exact rfl; (first | exact Keep.nil | (focus ((repeat (first | exact Incl.nil | (apply Incl.cons; (focus (with_reducible iterate 40 first | done | exact .here | apply Find.there); done)))); first | done | fail)) | (focus (apply Keep.incl; (repeat (first | exact Incl.nil | (apply Incl.cons; (focus (with_reducible iterate 40 first | done | exact .here | apply Find.there); done)))); first | done | fail)) | exact Keep.free (by kernel_rfl)); intro _) | refine E.then_exit ?_ | refine E.then_ret ?_ | refine E.block_normal ?_ | refine E.block_ret ?_ | refine E.block_exit ?_ | refine E.block_past rfl ?_))
  refine W.build (es := [(0, str what), (1, .iface _ _)]) rfl rfl rfl ?_
  (repeat (first | refine W.move rfl rfl ?_ | refine W.nilCheck rfl rfl ?_ | (apply W.field; exact rfl; ((try simp only [Nat.zero_add, Nat.add_zero, Nat.reduceAdd]); exact rfl); exact rfl) | (apply W.load; exact rfl; (focus (with_reducible iterate 40 first | done | exact .here | apply Find.there); done); exact rfl; exact rfl; exact rfl) | refine W.assign rfl rfl ?_ | refine W.nil ?_ | refine E.then_normal ?_ | refine C.seq ?_ | refine C.region ?_ | (apply W.store; exact rfl; exact rfl; exact rfl; (focus (with_reducible iterate 40 first | done | exact .here | apply Find.there); done); (focus (iterate 40 first | done | exact .here | apply SetAt.there); done); (first | exact Keep.nil | (focus ((repeat (first | exact Incl.nil | (apply Incl.cons; (focus (with_reducible iterate 40 first | done | exact .here | apply Find.there); done)))); first | done | fail)) | (focus (apply Keep.incl; (repeat (first | exact Incl.nil | (apply Incl.cons; (focus (with_reducible iterate 40 first | done | exact .here | apply Find.there); done)))); first | done | fail)) | exact Keep.free (by kernel_rfl))) | refine C.cond_true rfl ?_ | refine C.cond_false rfl ?_ | refine C.block ?_ | refine C.skip ?_ | refine C.ret ?_ | refine C.exit ?_ | refine W.guard_yes rfl rfl ?_ | refine W.guard_no rfl rfl rfl rfl ?_ | refine W.pick_true rfl rfl rfl ?_ | refine W.pick_false rfl rfl rfl ?_ | refine W.len_slice rfl rfl ?_ | refine W.len_str rfl rfl ?_ | refine W.extract rfl rfl rfl ?_ | refine W.not rfl rfl ?_ | (apply W.alloc_agg; exact rfl; (first | exact Keep.nil | (focus ((repeat (first | exact Incl.nil | (apply Incl.cons; (focus (with_reducible iterate 40 first | done | exact .here | apply Find.there); done)))); first | done | fail)) | (focus (apply Keep.incl; (repeat (first | exact Incl.nil | (apply Incl.cons; (focus (with_reducible iterate 40 first | done | exact .here | apply Find.there); done)))); first | done | fail)) | exact Keep.free (by kernel_rfl)); intro _) | (apply W.alloc1; exact rfl; exact rfl; (first | exact Keep.nil | (focus ((repeat (first | exact Incl.nil | (apply Incl.cons; (focus (with_reducible iterate 40 first | done | exact .here | apply Find.there); done)))); first | done | fail)) | (focus (apply Keep.incl; (repeat (first | exact Incl.nil | (apply Incl.cons; (focus (with_reducible iterate 40 first | done | exact .here | apply Find.there); done)))); first | done | fail)) | exact Keep.free (by kernel_rfl)); intro _) | (apply W.alloc; exact rfl; (first | exact Keep.nil | (focus ((repeat (first | exact Incl.nil | (apply Incl.cons; (focus (with_reducible iterate 40 first | done | exact .here | apply Find.there); done)))); first | done | fail)) | (focus (apply Keep.incl; (repeat (first | exact Incl.nil | (apply Incl.cons; (focus (with_reducible iterate 40 first | done | exact .here | apply Find.there); done)))); first | done | fail)) | exact Keep.free (by kernel_rfl)); intro _) | (apply W.box_agg; exact rfl; exact rfl; (first | exact Keep.nil | (focus ((repeat (first | exact Incl.nil | (apply Incl.cons; (focus (with_reducible iterate 40 first | done | exact .here | apply Find.there); done)))); first | done | fail)) | (focus (apply Keep.incl; (repeat (first | exact Incl.nil | (apply Incl.cons; (focus (with_reducible iterate 40 first | done | exact .here | apply Find.there); done)))); first | done | fail)) | exact Keep.free (by kernel_rfl)); intro _) | (apply W.box1; exact rfl; exact rfl; exact rfl; (first | exact Keep.nil | (focus ((repeat (first | exact Incl.nil | (apply Incl.cons; (focus (with_reducible iterate 40 first | done | exact .here | apply Find.there); done)))); first | done | fail)) | (focus (apply Keep.incl; (repeat (first | exact Incl.nil | (apply Incl.cons; (focus (with_reducible iterate 40 first | done | exact .here | apply Find.there); done)))); first | done | fail)) | exact Keep.free (by kernel_rfl)); intro _) | (apply W.box; exact rfl; exact rfl; (first | exact Keep.nil | (focus ((repeat (first | exact Incl.nil | (apply Incl.cons; (focus (with_reducible iterate 40 first | done | exact .here | apply Find.there); done)))); first | done | fail)) | (focus (apply Keep.incl; (repeat (first | exact Incl.nil | (apply Incl.cons; (focus (with_reducible iterate 40 first | done | exact .here | apply Find.there); done)))); first | done | fail)) | exact Keep.free (by kernel_rfl)); intro _) | refine E.then_exit ?_ | refine E.then_ret ?_ | refine E.block_normal ?_ | refine E.block_ret ?_ | refine E.block_exit ?_ | refine E.block_past rfl ?_))
  rename_i b
  (repeat (first | refine W.move rfl rfl ?_ | refine W.nilCheck rfl rfl ?_ | (apply W.field; exact rfl; ((try simp only [Nat.zero_add, Nat.add_zero, Nat.reduceAdd]); exact rfl); exact rfl) | (apply W.load; exact rfl; (focus (with_reducible iterate 40 first | done | exact .here | apply Find.there); done); exact rfl; exact rfl; exact rfl) | refine W.assign rfl rfl ?_ | refine W.nil ?_ | refine E.then_normal ?_ | refine C.seq ?_ | refine C.region ?_ | (apply W.store; exact rfl; exact rfl; exact rfl; (focus (with_reducible iterate 40 first | done | exact .here | apply Find.there); done); (focus (iterate 40 first | done | exact .here | apply SetAt.there); done); (first | exact Keep.nil | (focus ((repeat (first | exact Incl.nil | (apply Incl.cons; (focus (with_reducible iterate 40 first | done | exact .here | apply Find.there); done)))); first | done | fail)) | (focus (apply Keep.incl; (repeat (first | exact Incl.nil | (apply Incl.cons; (focus (with_reducible iterate 40 first | done | exact .here | apply Find.there); done)))); first | done | fail)) | exact Keep.free (by kernel_rfl))) | refine C.cond_true rfl ?_ | refine C.cond_false rfl ?_ | refine C.block ?_ | refine C.skip ?_ | refine C.ret ?_ | refine C.exit ?_ | refine W.guard_yes rfl rfl ?_ | refine W.guard_no rfl rfl rfl rfl ?_ | refine W.pick_true rfl rfl rfl ?_ | refine W.pick_false rfl rfl rfl ?_ | refine W.len_slice rfl rfl ?_ | refine W.len_str rfl rfl ?_ | refine W.extract rfl rfl rfl ?_ | refine W.not rfl rfl ?_ | (apply W.alloc_agg; exact rfl; (first | exact Keep.nil | (focus ((repeat (first | exact Incl.nil | (apply Incl.cons; (focus (with_reducible iterate 40 first | done | exact .here | apply Find.there); done)))); first | done | fail)) | (focus (apply Keep.incl; (repeat (first | exact Incl.nil | (apply Incl.cons; (focus (with_reducible iterate 40 first | done | exact .here | apply Find.there); done)))); first | done | fail)) | exact Keep.free (by kernel_rfl)); intro _) | (apply W.alloc1; exact rfl; exact rfl; (first | exact Keep.nil | (focus ((repeat (first | exact Incl.nil | (apply Incl.cons; (focus (with_reducible iterate 40 first | done | exact .here | apply Find.there); done)))); first | done | fail)) | (focus (apply Keep.incl; (repeat (first | exact Incl.nil | (apply Incl.cons; (focus (with_reducible iterate 40 first | done | exact .here | apply Find.there); done)))); first | done | fail)) | exact Keep.free (by kernel_rfl)); intro _) | (apply W.alloc; exact rfl; (first | exact Keep.nil | (focus ((repeat (first | exact Incl.nil | (apply Incl.cons; (focus (with_reducible iterate 40 first | done | exact .here | apply Find.there); done)))); first | done | fail)) | (focus (apply Keep.incl; (repeat (first | exact Incl.nil | (apply Incl.cons; (focus (with_reducible iterate 40 first | done | exact .here | apply Find.there); done)))); first | done | fail)) | exact Keep.free (by kernel_rfl)); intro _) | (apply W.box_agg; exact rfl; exact rfl; (first | exact Keep.nil | (focus ((repeat (first | exact Incl.nil | (apply Incl.cons; (focus (with_reducible iterate 40 first | done | exact .here | apply Find.there); done)))); first | done | fail)) | (focus (apply Keep.incl; (repeat (first | exact Incl.nil | (apply Incl.cons; (focus (with_reducible iterate 40 first | done | exact .here | apply Find.there); done)))); first | done | fail)) | exact Keep.free (by kernel_rfl)); intro _) | (apply W.box1; exact rfl; exact rfl; exact rfl; (first | exact Keep.nil | (focus ((repeat (first | exact Incl.nil | (apply Incl.cons; (focus (with_reducible iterate 40 first | done | exact .here | apply Find.there); done)))); first | done | fail)) | (focus (apply Keep.incl; (repeat (first | exact Incl.nil | (apply Incl.cons; (focus (with_reducible iterate 40 first | done | exact .here | apply Find.there); done)))); first | done | fail)) | exact Keep.free (by kernel_rfl)); intro _) | (apply W.box; exact rfl; exact rfl; (first | exact Keep.nil | (focus ((repeat (first | exact Incl.nil | (apply Incl.cons; (focus (with_reducible iterate 40 first | done | exact .here | apply Find.there); done)))); first | done | fail)) | (focus (apply Keep.incl; (repeat (first | exact Incl.nil | (apply Incl.cons; (focus (with_reducible iterate 40 first | done | exact .here | apply Find.there); done)))); first | done | fail)) | exact Keep.free (by kernel_rfl)); intro _) | refine E.then_exit ?_ | refine E.then_ret ?_ | refine E.block_normal ?_ | refine E.block_ret ?_ | refine E.block_exit ?_ | refine E.block_past rfl ?_))
  refine W.makeIface rfl rfl ?_
  (repeat (first | refine W.move rfl rfl ?_ | refine W.nilCheck rfl rfl ?_ | (apply W.field; exact rfl; ((try simp only [Nat.zero_add, Nat.add_zero, Nat.reduceAdd]); exact rfl); exact rfl) | (apply W.load; exact rfl; (focus (with_reducible iterate 40 first | done | exact .here | apply Find.there); done); exact rfl; exact rfl; exact rfl) | refine W.assign rfl rfl ?_ | refine W.nil ?_ | refine E.then_normal ?_ | refine C.seq ?_ | refine C.region ?_ | (apply W.store; exact rfl; exact rfl; exact rfl; (focus (with_reducible iterate 40 first | done | exact .here | apply Find.there); done); (focus (iterate 40 first | done | exact .here | apply SetAt.there); done); (first | exact Keep.nil | (focus ((repeat (first | exact Incl.nil | (apply Incl.cons; (focus (with_reducible iterate 40 first | done | exact .here | apply Find.there); done)))); first | done | fail)) | (focus (apply Keep.incl; (repeat (first | exact Incl.nil | (apply Incl.cons; (focus (with_reducible iterate 40 first | done | exact .here | apply Find.there); done)))); first | done | fail)) | exact Keep.free (by kernel_rfl))) | refine C.cond_true rfl ?_ | refine C.cond_false rfl ?_ | refine C.block ?_ | refine C.skip ?_ | refine C.ret ?_ | refine C.exit ?_ | refine W.guard_yes rfl rfl ?_ | refine W.guard_no rfl rfl rfl rfl ?_ | refine W.pick_true rfl rfl rfl ?_ | refine W.pick_false rfl rfl rfl ?_ | refine W.len_slice rfl rfl ?_ | refine W.len_str rfl rfl ?_ | refine W.extract rfl rfl rfl ?_ | refine W.not rfl rfl ?_ | (apply W.alloc_agg; exact rfl; (first | exact Keep.nil | (focus ((repeat (first | exact Incl.nil | (apply Incl.cons; (focus (with_reducible iterate 40 first | done | exact .here | apply Find.there); done)))); first | done | fail)) | (focus (apply Keep.incl; (repeat (first | exact Incl.nil | (apply Incl.cons; (focus (with_reducible iterate 40 first | done | exact .here | apply Find.there); done)))); first | done | fail)) | exact Keep.free (by kernel_rfl)); intro _) | (apply W.alloc1; exact rfl; exact rfl; (first | exact Keep.nil | (focus ((repeat (first | exact Incl.nil | (apply Incl.cons; (focus (with_reducible iterate 40 first | done | exact .here | apply Find.there); done)))); first | done | fail)) | (focus (apply Keep.incl; (repeat (first | exact Incl.nil | (apply Incl.cons; (focus (with_reducible iterate 40 first | done | exact .here | apply Find.there); done)))); first | done | fail)) | exact Keep.free (by kernel_rfl)); intro _) | (apply W.alloc; exact rfl; (first | exact Keep.nil | (focus ((repeat (first | exact Incl.nil | (apply Incl.cons; (focus (with_reducible iterate 40 first | done | exact .here | apply Find.there); done)))); first | done | fail)) | (focus (apply Keep.incl; (repeat (first | exact Incl.nil | (apply Incl.cons; (focus (with_reducible iterate 40 first | done | exact .here | apply Find.there); done)))); first | done | fail)) | exact Keep.free (by kernel_rfl)); intro _) | (apply W.box_agg; exact rfl; exact rfl; (first | exact Keep.nil | (focus ((repeat (first | exact Incl.nil | (apply Incl.cons; (focus (with_reducible iterate 40 first | done | exact .here | apply Find.there); done)))); first | done | fail)) | (focus (apply Keep.incl; (repeat (first | exact Incl.nil | (apply Incl.cons; (focus (with_reducible iterate 40 first | done | exact .here | apply Find.there); done)))); first | done | fail)) | exact Keep.free (by kernel_rfl)); intro _) | (apply W.box1; exact rfl; exact rfl; exact rfl; (first | exact Keep.nil | (focus ((repeat (first | exact Incl.nil | (apply Incl.cons; (focus (with_reducible iterate 40 first | done | exact .here | apply Find.there); done)))); first | done | fail)) | (focus (apply Keep.incl; (repeat (first | exact Incl.nil | (apply Incl.cons; (focus (with_reducible iterate 40 first | done | exact .here | apply Find.there); done)))); first | done | fail)) | exact Keep.free (by kernel_rfl)); intro _) | (apply W.box; exact rfl; exact rfl; (first | exact Keep.nil | (focus ((repeat (first | exact Incl.nil | (apply Incl.cons; (focus (with_reducible iterate 40 first | done | exact .here | apply Find.there); done)))); first | done | fail)) | (focus (apply Keep.incl; (repeat (first | exact Incl.nil | (apply Incl.cons; (focus (with_reducible iterate 40 first | done | exact .here | apply Find.there); done)))); first | done | fail)) | exact Keep.free (by kernel_rfl)); intro _) | refine E.then_exit ?_ | refine E.then_ret ?_ | refine E.block_normal ?_ | refine E.block_ret ?_ | refine E.block_exit ?_ | refine E.block_past rfl ?_))
  exact ret1 ⟨b, rfl, rfl⟩
theorem rightNil_spec : Trip Tryz.prog 107 [.pointer none] [] (fun v Ps => v = .bool false ∧ Ps = []) := by
  refine Trip.of (m := 63) Tryz.func107 rfl rfl rfl ?_
  intro o Rs
  simp only [List.cons_append, List.nil_append, enumFrom]
  refine go ?_
  simp
theorem CheckNil_spec : Trip Tryz.prog 49 [.pointer none] [] (fun u Ps => ∃ b, u = .iface 210 (.pointer (some ⟨b, 0, none⟩)) ∧ Ps = []) := by
  refine Trip.of (m := 15) Tryz.func49 rfl rfl rfl ?_
  intro o Rs
  simp only [List.cons_append, List.nil_append, enumFrom]
  have F1 := rightNil_spec
  have F2 := WrapE_spec [116, 97, 98, 108, 101, 115] 13
  refine go ?_
  refine ⟨?_, by simp⟩ <;> intros
  rename_i b
  exact ret1 ⟨b, rfl, rfl⟩
theorem NewNil_spec : Trip Tryz.prog 10 [.pointer none] [] (fun u Ps => u = .pointer none ∧ Ps = []) := by
  refine Trip.of (m := 84) Tryz.func10 rfl rfl rfl ?_
  intro o Rs
  simp only [List.cons_append, List.nil_append, enumFrom]
  haveI : Plan 7 [26, 30, 32, 34, 36] [0, 1, 2, 3, 4, 5, 6, 7, 8, 9, 10, 11, 12, 13, 14, 15, 16, 17, 18, 19, 20] := ⟨⟩
  haveI : Plan 13 [63, 65, 67] [0, 1, 2, 3, 4, 5, 6, 7, 8, 9, 10, 11, 12, 13, 14] := ⟨⟩
  haveI : Plan 14 [76, 78, 79] [0, 1, 2, 3, 4, 5, 6, 7, 8, 9] := ⟨⟩
  have F1 := CheckNil_spec
  refine go ?_
  simp
end Go.Proofs.YtlibnpdbcjgegaaGreat
