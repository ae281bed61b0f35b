/-
  The Reader where it stands before what was written.
-/
import Derived.Test.YthejchmhjcfdiaaCdWorld
namespace Go.Proofs.Ythejchmhjcfdiaa
open Go.SL
set_option linter.unusedVariables false
set_option linter.unusedSimpArgs false
set_option maxHeartbeats 4000000
/-- A reader at block d that stands before b; its bytes are held by R. -/
def rdx (d : Nat) (R : HProp) (b : List UInt8) (bad : Bool) : HProp := exL (fun x : Option Addr × Nat => Reads R Enc.u8 x.1 b ∧ b.length ≤ x.2) (fun x => [rdr d x.1 x.2 b bad])
instance {d : Nat} {R : HProp} {b : List UInt8} {bad : Bool} : Cel (rdx d R b bad) d 1 (.bool bad) := ⟨exL_cell (fun x => rdr d x.1 x.2 b bad) (fun _ => _) (fun _ => .here) (fun _ _ => blk_cellAt rfl)⟩
theorem _root_.Go.SL.Trip.exo {P : Program} {f : FuncId} {args : List Value} {β : Type} {φ : β → Prop} {Ps : β → List HProp} {Pre : List HProp} {q : Value → List HProp → Prop} (h : ∀ x, φ x → Trip P f args (Ps x ++ Pre) q) : Trip P f args (exL φ Ps :: Pre) q := by
  constructor; intro o w Rs hw
  obtain ⟨x, hx⟩ := Sat.exo hw
  exact (h x.1 x.2).run o w Rs (by rw [List.append_assoc]; exact hx)
theorem _root_.Go.SL.Trip.post {P : Program} {f : FuncId} {args : List Value} {Pre : List HProp} {q q' : Value → List HProp → Prop} (h : Trip P f args Pre q) (k : ∀ v Ps, q v Ps → ∃ Ps', q' v Ps' ∧ ∀ o w Rs, Sat o w (Ps ++ Rs) → Sat o w (Ps' ++ Rs)) : Trip P f args Pre q' := by
  constructor; intro o w Rs hw
  refine (h.run o w Rs hw).mono ?_
  rintro e w' ⟨v, Ps, he, hq, hs⟩
  obtain ⟨Ps', h1, h2⟩ := k v Ps hq
  exact ⟨v, Ps', he, h1, h2 _ _ _ hs⟩
theorem rdx_close {o : Outer} {W : World} {d : Nat} {A : Option Addr} {c : Nat} {R : HProp} {b : List UInt8} {bad : Bool} {r : List HProp} (h1 : Reads R Enc.u8 A b) (h2 : b.length ≤ c) (k : Sat o W (rdr d A c b bad :: r)) : Sat o W (rdx d R b bad :: r) :=
  Sat.exc (A, c) ⟨h1, h2⟩ k
section
variable (d : Nat) (R : HProp)
theorem Int_ok (n : Int) (hn : OkI n) (r : List UInt8) : Trip Try.prog 25 [.pointer (some ⟨d, 0, none⟩)] [rdx d R (intE n ++ r) false, R] (fun v Ps => v = .int .i64 n ∧ Ps = [rdx d R r false, R]) := by
  refine Trip.exo fun x hx => (RInt_spec d x.1 x.2 _ false R hx.1 hx.2).post ?_
  rw [intD_intE n hn.1 hn.2]
  rintro v Ps ⟨A', c', h1, h2, h3, rfl⟩
  exact ⟨_, ⟨h3, rfl⟩, fun o w Rs hs => rdx_close h1 h2 hs⟩
theorem Count_ok (n : Nat) (r : List UInt8) (hn : n ≤ r.length) (hr : r.length ≤ 900000) : Trip Try.prog 58 [.pointer (some ⟨d, 0, none⟩)] [rdx d R (lenE 8 n ++ r) false, R] (fun v Ps => v = .int .i64 (n : Int) ∧ Ps = [rdx d R r false, R]) := by
  have hl := lenE_len 8 n
  refine Trip.exo fun x hx => (Count_spec d x.1 x.2 _ false R hx.1 hx.2 (by simp only [List.length_append]; omega)).post ?_
  rw [cntD_lenE n (by omega) r hn]
  rintro v Ps ⟨A', c', h1, h2, h3, rfl⟩
  exact ⟨_, ⟨h3, rfl⟩, fun o w Rs hs => rdx_close h1 h2 hs⟩
theorem Text_ok (s r : List UInt8) (hs : s.length ≤ 1000) (hr : r.length ≤ 900000) : Trip Try.prog 30 [.pointer (some ⟨d, 0, none⟩)] [rdx d R (textE s ++ r) false, R] (fun v Ps => v = str s ∧ Ps = [rdx d R r false, R]) := by
  have hl := textE_len s
  refine Trip.exo fun x hx => (RText_spec d x.1 x.2 _ false R hx.1 hx.2 (by simp only [List.length_append]; omega)).post ?_
  rw [textD_textE s r (by omega)]
  rintro v Ps ⟨A', c', h1, h2, h3, rfl⟩
  exact ⟨_, ⟨h3, rfl⟩, fun o w Rs hs => rdx_close h1 h2 hs⟩
theorem yes_ok (b : Bool) (r : List UInt8) : Trip Try.prog 59 [.pointer (some ⟨d, 0, none⟩)] [rdx d R (intE (if b then 1 else 0) ++ r) false, R] (fun v Ps => v = .bool b ∧ Ps = [rdx d R r false, R]) := by
  refine Trip.exo fun x hx => (yes_spec d x.1 x.2 _ false R hx.1 hx.2).post ?_
  rw [yesD, intD_intE _ (by split <;> omega) (by split <;> omega)]
  rintro v Ps ⟨A', c', h1, h2, h3, rfl⟩
  have e1 : ((if b = true then 1 else 0 : Int) == 1) = b := by cases b <;> rfl
  have e2 : (false || (decide ((if b = true then 1 else 0 : Int) < 0) || decide (1 < (if b = true then 1 else 0 : Int)))) = false := by cases b <;> rfl
  simp only [e1, e2] at h1 h2 h3 ⊢
  exact ⟨_, ⟨h3, rfl⟩, fun o w Rs hs => rdx_close h1 h2 hs⟩
theorem numbers_ok (ns : List Int) (hn : ∀ n ∈ ns, OkI n) (hl : ns.length ≤ 1000) (r : List UInt8) (hr : r.length ≤ 900000) : Trip Try.prog 52 [.pointer (some ⟨d, 0, none⟩)] [rdx d R (listE ns ++ r) false, R]
    (fun v Ps => ∃ B m, v = .slice B ns.length m ∧ Ps = [rdx d R r false, R, sl E64 3 B m ns]) := by
  have hl := listE_len ns
  refine Trip.exo fun x hx => (numbers_spec d x.1 x.2 _ false R hx.1 hx.2 (by simp only [List.length_append]; omega)).post ?_
  rw [listD_listE ns hn (by omega)]
  rintro v Ps ⟨A', c', B, m, h1, h2, h3, rfl⟩
  exact ⟨_, ⟨B, m, h3, rfl⟩, fun o w Rs hs => rdx_close h1 h2 hs⟩
theorem lenE_pos (n : Nat) : 1 ≤ (lenE 8 n).length := by
  rw [lenE]; split <;> simp
theorem Done_ok (b : List UInt8) (bad : Bool) : Trip Try.prog 39 [.pointer (some ⟨d, 0, none⟩)] [rdx d R b bad] (fun v Ps => v = .bool (!bad && decide (b = [])) ∧ Ps = [rdx d R b bad]) := by
  refine Trip.exo fun x hx => (Done_spec d x.1 x.2 b bad).post ?_
  rintro v Ps ⟨h3, rfl⟩
  exact ⟨_, ⟨h3, rfl⟩, fun o w Rs hs => rdx_close hx.1 hx.2 hs⟩
end
end Go.Proofs.Ythejchmhjcfdiaa
