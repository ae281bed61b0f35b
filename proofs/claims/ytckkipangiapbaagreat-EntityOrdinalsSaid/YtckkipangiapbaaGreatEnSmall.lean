/-
  The program's worlds: small questions.
-/
import Derived.Test.YtckkipangiapbaaGreatEnCheck
namespace Go.Proofs.YtckkipangiapbaaGreat
open Go.SL
set_option linter.unusedVariables false
set_option linter.unusedSimpArgs false
set_option maxHeartbeats 8000000
set_option maxRecDepth 20000
theorem lev_le (xp : Int) (h1 : xp ≤ 9000000000000000000) : 1 ≤ levelN xp ∧ levelN xp ≤ 90000000000000001 := by
  unfold levelN; split <;> omega
section
variable {P : Program} {n : Nat} {o : Outer} {sr : List Tmp} {ops : Array Oper} {Q : Post} {St : List HProp} {rest : List Oper} {xs : Env} {hs : List HProp}
variable {d : Option Tmp} {ty : TypeId} {pos : String} {af : Array Edge} {α : Type} {En : Enc α} {A : Option Addr} {l : List α} {R : HProp}
/-- The first cell of the first element. -/
theorem W.ldz {t : Nat} {x : Operand} {y : α} {v : Value} [h1 : One P t] (hx : ev xs x = some (.pointer (some ⟨bk A, of A, none⟩))) (hf : FindS hs R En A l) (hy : l[0]? = some y) (hv : (En.f y)[0]? = some v)
    (hns : stbD sr d = false) (hd : fits n d = true) (k : W P n o sr ops Q St rest (put d v xs) hs) : W P n o sr ops Q St (⟨d, .load t x, ty, pos, af, none⟩ :: rest) xs hs :=
  W.ld0 (i := 0) (sz := En.sz) (by rw [Nat.zero_mul]; exact hx) hf rfl hy hv hns hd k
end
theorem LevelP_spec (xp : Int) (h0 : -1000000000000000000 ≤ xp) (h1 : xp ≤ 1000000000000000000) : Trip Tryz.prog 18 [.int .i64 xp] [] (fun v Ps => v = .int .i64 (levelN xp) ∧ Ps = []) := by
  refine Trip.of (m := 7) Tryz.func18 rfl rfl rfl ?_
  intro o Rs
  simp only [List.cons_append, List.nil_append, enumFrom]
  unfold levelN
  by_cases h2 : xp < 0
  · rw [if_pos h2]
    have hm : max xp 0 = 0 := by omega
    refine go ?_
    refine ⟨?_, by simp⟩ <;> intros
    rw [hm]
  · rw [if_neg h2]
    have hm : max xp 0 = xp := by omega
    refine go ?_
    refine ⟨?_, by simp⟩ <;> intros
    rw [hm]
theorem MaxHpP_spec (xp : Int) (h0 : -1000000000000000000 ≤ xp) (h1 : xp ≤ 1000000000000000000) : Trip Tryz.prog 20 [.int .i64 xp] [] (fun v Ps => v = .int .i64 (maxHpN xp) ∧ Ps = []) := by
  refine Trip.of (m := 8) Tryz.func20 rfl rfl rfl ?_
  intro o Rs
  simp only [List.cons_append, List.nil_append, enumFrom]
  have F1 := LevelP_spec xp h0 h1
  have hl := lev_le xp (by omega)
  unfold maxHpN
  generalize levelN xp = l at *
  refine go ?_
  refine ⟨?_, by simp⟩ <;> intros
  exact congrArg (Value.int .i64) (by omega)
theorem StartP_spec (d : Nat) (m : Tay) (t : Tab) (hl : t.rooms.length ≤ 100000) (P : HProp) [hp : RT P d m t] : Trip Tryz.prog 37 [.pointer (some ⟨d, 0, none⟩)] [P] (fun v Ps => v = .int .i64 (startR t) ∧ Ps = [P]) := by
  refine Trip.of (m := 20) Tryz.func37 rfl rfl rfl ?_
  intro o Rs
  simp only [List.cons_append, List.nil_append, enumFrom]
  unfold startR
  cases hr : t.rooms with
  | nil =>
    have hn : t.rooms.length = 0 := by rw [hr]; rfl
    refine go ?_
    simp
  | cons x l =>
    have hn : ¬ t.rooms.length = 0 := by rw [hr]; simp
    have hx : t.rooms[0]? = some x := by rw [hr]; rfl
    have h0 : t.rooms.length = l.length + 1 := by rw [hr]; rfl
    refine go ?_
    refine ⟨?_, by simp⟩ <;> intros
    refine W.ldz (by exact rfl) (.here hp.ro) hx (by exact rfl) rfl rfl ?_
    refine go ?_
    simp
theorem find_zip {α β : Type} (p : α → Bool) : ∀ (l : List α) (r : List β), r.length = l.length → (l.zip r).findIdx? (fun x => p x.1) = l.findIdx? p
  | [], _, _ => by simp
  | a :: l, [], h => by cases h
  | a :: l, b :: r, h => by simp only [List.zip_cons_cons, List.findIdx?_cons, find_zip p l r (by simpa using h)]
theorem CharP_one (x : Chr × PA) (name : Tx) (b : Nat) (R : HProp) : Trip Tryz.prog 61 ([.agg (chrC x.1 x.2).toArray] ++ [.pointer (some ⟨b, 0, none⟩)]) [R, blk b 9 [str name]] (fun v Ps => v = .bool (x.1.name == name) ∧ Ps = [R, blk b 9 [str name]]) := by
  refine Trip.of (m := 8) Tryz.func61 rfl rfl rfl ?_
  intro o Rs
  simp only [List.cons_append, List.nil_append, enumFrom]
  refine go ?_
  simp
theorem CharP_spec (d : Nat) (m : Lay) (w : Wld) (name : Tx) (hl : w.chars.length ≤ 1000000) (lm : Laid m w) (P : HProp) [hp : RW P d m w] : Trip Tryz.prog 27 [.pointer (some ⟨d, 0, none⟩), str name] [P] (fun v Ps => v = .int .i64 (iv (charI w name)) ∧ Ps = [P]) := by
  refine Trip.of (m := 13) Tryz.func27 rfl rfl rfl ?_
  intro o Rs
  simp only [List.cons_append, List.nil_append, enumFrom]
  have zc : w.chars.length = (w.chars.zip m.dn).length := by rw [List.length_zip, lm.1, Nat.min_self]
  refine go ?_
  refine ⟨?_, by simp⟩ <;> intros
  rename_i b
  have F1 := idx_chr (w.chars.zip m.dn) m.chA m.chC (by rw [← zc]; omega) P hp.ch 61 [.pointer (some ⟨b, 0, none⟩)] [P, blk b 9 [str name]] [blk b 9 [str name]] .here (fun x => x.1.name == name) (fun x _ => CharP_one x name b P)
  rw [← zc, find_zip (fun c : Chr => c.name == name) w.chars m.dn lm.1] at F1
  unfold charI
  refine go ?_
  simp
theorem money_yes (n : Int) (h : 0 ≤ n ∧ n ≤ 1099511627776) : Trip Tryz.prog 120 [.int .i64 n] [] (fun v Ps => v = .bool true ∧ Ps = []) := by
  refine Trip.of (m := 9) Tryz.func120 rfl rfl rfl ?_
  intro o Rs
  simp only [List.cons_append, List.nil_append, enumFrom]
  obtain ⟨h1, h2⟩ := h
  refine go ?_
  refine ⟨?_, by simp⟩ <;> intros
  rw [decide_eq_true h2]
theorem room_yes (d : Nat) (m : Tay) (t : Tab) (id : Int) (hl : t.rooms.length ≤ 1000000) (h : ∃ k, roomI t id = some k) (P : HProp) [hp : RT P d m t] : Trip Tryz.prog 77 [.pointer (some ⟨d, 0, none⟩), .int .i64 id] [P] (fun v Ps => v = .bool true ∧ Ps = [P]) := by
  refine Trip.of (m := 14) Tryz.func77 rfl rfl rfl ?_
  intro o Rs
  simp only [List.cons_append, List.nil_append, enumFrom]
  obtain ⟨k, hk⟩ := h
  have F1 := RoomP_spec d m t id hl P
  rw [hk, Option.isSome_some] at F1
  refine go ?_
  simp
end Go.Proofs.YtckkipangiapbaaGreat
