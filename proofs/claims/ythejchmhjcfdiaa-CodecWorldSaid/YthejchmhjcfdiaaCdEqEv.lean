/-
  The document's comparisons.
-/
import Derived.Test.YthejchmhjcfdiaaCdEvent
import Derived.Test.YthejchmhjcfdiaaWoMem
namespace Go.Proofs.Ythejchmhjcfdiaa
open Go.SL
set_option linter.unusedVariables false
set_option linter.unusedSimpArgs false
set_option maxHeartbeats 4000000
theorem refints_spec (a b : List Int) (A B : Option Addr) (ca cb : Nat) (P Q : HProp) (hP : Reads P (Enc.int .i64) A a) (hQ : Reads Q (Enc.int .i64) B b) (hl : a.length ≤ 140737488355328) (hl2 : b.length ≤ 140737488355328) :
    Trip Try.prog 41 [.slice A a.length ca, .slice B b.length cb] [P, Q] (fun v Ps => v = .bool (a == b) ∧ Ps = [P, Q]) := by
  refine Trip.of (m := 26) Try.func41 rfl rfl rfl ?_
  intro o Rs
  simp only [List.cons_append, List.nil_append, enumFrom]
  by_cases hab : a.length = b.length
  · refine go ?_
    refine ⟨?_, by simp⟩ <;> intros
    refine loop (fun k => k ≤ a.length ∧ a.take k = b.take k) (fun k => [(0, .slice A a.length ca), (1, .slice B b.length cb), (5, .int .i64 (k : Int))]) (fun k => P :: Q :: Rs) (fun k => a.length - k) 0 ⟨Nat.zero_le _, rfl⟩ fun k ⟨h1, h2⟩ => ?_
    by_cases hk : k < a.length
    · obtain ⟨x, hx⟩ : ∃ x, a[k]? = some x := ⟨_, List.getElem?_eq_getElem hk⟩
      obtain ⟨y, hy⟩ : ∃ y, b[k]? = some y := ⟨_, List.getElem?_eq_getElem (by omega)⟩
      refine go ?_
      refine ⟨fun h3 h4 => ?_, fun h3 h4 => ?_, by simp⟩
      · have hne : a ≠ b := by rintro rfl; rw [hx] at hy; exact h4 (Option.some.inj hy)
        rw [beq_eq_false_iff_ne.2 hne]
      · exact rnd (k + 1) ⟨hk, by rw [List.take_add_one, List.take_add_one, hx, hy, h2, h4]⟩ (by omega)
    · rw [List.take_of_length_le (by omega), List.take_of_length_le (by omega)] at h2
      subst h2
      refine go ?_
      refine ⟨?_, by simp⟩ <;> intros
      rw [beq_self_eq_true]
  · have hne : a ≠ b := by rintro rfl; exact hab rfl
    refine go ?_
    refine ⟨?_, by simp⟩ <;> intros
    rw [beq_eq_false_iff_ne.2 hne]
@[reducible] def evV (k : Int) (nm tx : List UInt8) (D : Option Addr) (n m : Nat) : Value := .agg #[.int .i64 k, str nm, str tx, .slice D n m]
theorem RefEqEvent_spec (k k' : Int) (nm nm' tx tx' : List UInt8) (dc dc' : List Int) (D D' : Option Addr) (m m' : Nat) (P Q : HProp) (hP : Reads P (Enc.int .i64) D dc) (hQ : Reads Q (Enc.int .i64) D' dc') (hl : dc.length ≤ 1000) (hl2 : dc'.length ≤ 1000) :
    Trip Try.prog 15 [evV k nm tx D dc.length m, evV k' nm' tx' D' dc'.length m'] [P, Q] (fun v Ps => v = .bool (k == k' && (nm == nm' && (tx == tx' && dc == dc'))) ∧ Ps = [P, Q]) := by
  refine Trip.of (m := 31) Try.func15 rfl rfl rfl ?_
  intro o Rs
  simp only [List.cons_append, List.nil_append, enumFrom]
  have F1 := refints_spec dc dc' D D' m m' P Q hP hQ (by omega) (by omega)
  refine go ?_
  refine ⟨?_, ?_, ?_, ?_, ?_, by simp⟩ <;> intros
  all_goals simp_all
theorem EqualInt_spec (a b : List Int) (A B : Option Addr) (ca cb : Nat) (P Q : HProp) (hP : Reads P (Enc.int .i64) A a) (hQ : Reads Q (Enc.int .i64) B b) (hl : a.length ≤ 140737488355328) (hl2 : b.length ≤ 140737488355328) :
    Trip Try.prog 53 [.slice A a.length ca, .slice B b.length cb] [P, Q] (fun v Ps => v = .bool (decide (a = b)) ∧ Ps = [P, Q]) := by
  refine Trip.of (m := 26) Try.func53 rfl rfl rfl ?_
  intro o Rs
  simp only [List.cons_append, List.nil_append, enumFrom]
  by_cases hab : a.length = b.length
  · refine go ?_
    refine ⟨?_, by simp⟩ <;> intros
    refine loop (fun k => k ≤ a.length ∧ a.take k = b.take k) (fun k => [(0, .slice A a.length ca), (1, .slice B b.length cb), (12, .int .i64 (a.length : Int)), (13, .int .i64 (k : Int))]) (fun k => P :: Q :: Rs) (fun k => a.length - k) 0 ⟨Nat.zero_le _, rfl⟩ fun k ⟨h1, h2⟩ => ?_
    by_cases hk : k < a.length
    · obtain ⟨x, hx⟩ : ∃ x, a[k]? = some x := ⟨_, List.getElem?_eq_getElem hk⟩
      obtain ⟨y, hy⟩ : ∃ y, b[k]? = some y := ⟨_, List.getElem?_eq_getElem (by omega)⟩
      refine go ?_
      refine ⟨fun h5 h3 => ?_, fun h5 h3 => ?_, by simp⟩
      · have hne : a ≠ b := by
          rintro rfl; rw [hx] at hy; cases hy
          revert h3; simp
        rw [decide_eq_false hne]
      · have hxy : x = y := by
          exact h3
        exact rnd (k + 1) ⟨hk, by rw [List.take_add_one, List.take_add_one, hx, hy, h2, hxy]⟩ (by omega)
    · rw [List.take_of_length_le (by omega), List.take_of_length_le (by omega)] at h2
      subst h2
      refine go ?_
      refine ⟨?_, by simp⟩ <;> intros
      rw [decide_eq_true rfl]
  · have hne : a ≠ b := by rintro rfl; exact hab rfl
    refine go ?_
    refine ⟨?_, by simp⟩ <;> intros
    rw [decide_eq_false hne]
theorem EqualThg_spec (a b : List Thg) (A B : Option Addr) (ca cb : Nat) (P Q : HProp) (hP : Reads P Et A a) (hQ : Reads Q Et B b) (hl : a.length ≤ 140737488355328) (hl2 : b.length ≤ 140737488355328) :
    Trip Try.prog 45 [.slice A a.length ca, .slice B b.length cb] [P, Q] (fun v Ps => v = .bool (decide (a = b)) ∧ Ps = [P, Q]) := by
  refine Trip.of (m := 26) Try.func45 rfl rfl rfl ?_
  intro o Rs
  simp only [List.cons_append, List.nil_append, enumFrom]
  by_cases hab : a.length = b.length
  · refine go ?_
    refine ⟨?_, by simp⟩ <;> intros
    refine loop (fun k => k ≤ a.length ∧ a.take k = b.take k) (fun k => [(0, .slice A a.length ca), (1, .slice B b.length cb), (12, .int .i64 (a.length : Int)), (13, .int .i64 (k : Int))]) (fun k => P :: Q :: Rs) (fun k => a.length - k) 0 ⟨Nat.zero_le _, rfl⟩ fun k ⟨h1, h2⟩ => ?_
    by_cases hk : k < a.length
    · obtain ⟨x, hx⟩ : ∃ x, a[k]? = some x := ⟨_, List.getElem?_eq_getElem hk⟩
      obtain ⟨y, hy⟩ : ∃ y, b[k]? = some y := ⟨_, List.getElem?_eq_getElem (by omega)⟩
      refine go ?_
      refine ⟨fun h5 h3 => ?_, fun h5 h3 => ?_, by simp⟩
      · have hne : a ≠ b := by
          rintro rfl; rw [hx] at hy; cases hy
          revert h3; simp
        rw [decide_eq_false hne]
      · have hxy : x = y := by
          (cases x; cases y; simp_all)
        exact rnd (k + 1) ⟨hk, by rw [List.take_add_one, List.take_add_one, hx, hy, h2, hxy]⟩ (by omega)
    · rw [List.take_of_length_le (by omega), List.take_of_length_le (by omega)] at h2
      subst h2
      refine go ?_
      refine ⟨?_, by simp⟩ <;> intros
      rw [decide_eq_true rfl]
  · have hne : a ≠ b := by rintro rfl; exact hab rfl
    refine go ?_
    refine ⟨?_, by simp⟩ <;> intros
    rw [decide_eq_false hne]
theorem EqualMob_spec (a b : List Mob) (A B : Option Addr) (ca cb : Nat) (P Q : HProp) (hP : Reads P Em A a) (hQ : Reads Q Em B b) (hl : a.length ≤ 140737488355328) (hl2 : b.length ≤ 140737488355328) :
    Trip Try.prog 46 [.slice A a.length ca, .slice B b.length cb] [P, Q] (fun v Ps => v = .bool (decide (a = b)) ∧ Ps = [P, Q]) := by
  refine Trip.of (m := 26) Try.func46 rfl rfl rfl ?_
  intro o Rs
  simp only [List.cons_append, List.nil_append, enumFrom]
  by_cases hab : a.length = b.length
  · refine go ?_
    refine ⟨?_, by simp⟩ <;> intros
    refine loop (fun k => k ≤ a.length ∧ a.take k = b.take k) (fun k => [(0, .slice A a.length ca), (1, .slice B b.length cb), (12, .int .i64 (a.length : Int)), (13, .int .i64 (k : Int))]) (fun k => P :: Q :: Rs) (fun k => a.length - k) 0 ⟨Nat.zero_le _, rfl⟩ fun k ⟨h1, h2⟩ => ?_
    by_cases hk : k < a.length
    · obtain ⟨x, hx⟩ : ∃ x, a[k]? = some x := ⟨_, List.getElem?_eq_getElem hk⟩
      obtain ⟨y, hy⟩ : ∃ y, b[k]? = some y := ⟨_, List.getElem?_eq_getElem (by omega)⟩
      refine go ?_
      refine ⟨fun h5 h3 => ?_, fun h5 h3 => ?_, by simp⟩
      · have hne : a ≠ b := by
          rintro rfl; rw [hx] at hy; cases hy
          revert h3; simp
        rw [decide_eq_false hne]
      · have hxy : x = y := by
          (cases x; cases y; simp_all)
        exact rnd (k + 1) ⟨hk, by rw [List.take_add_one, List.take_add_one, hx, hy, h2, hxy]⟩ (by omega)
    · rw [List.take_of_length_le (by omega), List.take_of_length_le (by omega)] at h2
      subst h2
      refine go ?_
      refine ⟨?_, by simp⟩ <;> intros
      rw [decide_eq_true rfl]
  · have hne : a ≠ b := by rintro rfl; exact hab rfl
    refine go ?_
    refine ⟨?_, by simp⟩ <;> intros
    rw [decide_eq_false hne]
theorem EqualLot_spec (a b : List Lot) (A B : Option Addr) (ca cb : Nat) (P Q : HProp) (hP : Reads P El A a) (hQ : Reads Q El B b) (hl : a.length ≤ 140737488355328) (hl2 : b.length ≤ 140737488355328) :
    Trip Try.prog 49 [.slice A a.length ca, .slice B b.length cb] [P, Q] (fun v Ps => v = .bool (decide (a = b)) ∧ Ps = [P, Q]) := by
  refine Trip.of (m := 26) Try.func49 rfl rfl rfl ?_
  intro o Rs
  simp only [List.cons_append, List.nil_append, enumFrom]
  by_cases hab : a.length = b.length
  · refine go ?_
    refine ⟨?_, by simp⟩ <;> intros
    refine loop (fun k => k ≤ a.length ∧ a.take k = b.take k) (fun k => [(0, .slice A a.length ca), (1, .slice B b.length cb), (12, .int .i64 (a.length : Int)), (13, .int .i64 (k : Int))]) (fun k => P :: Q :: Rs) (fun k => a.length - k) 0 ⟨Nat.zero_le _, rfl⟩ fun k ⟨h1, h2⟩ => ?_
    by_cases hk : k < a.length
    · obtain ⟨x, hx⟩ : ∃ x, a[k]? = some x := ⟨_, List.getElem?_eq_getElem hk⟩
      obtain ⟨y, hy⟩ : ∃ y, b[k]? = some y := ⟨_, List.getElem?_eq_getElem (by omega)⟩
      refine go ?_
      refine ⟨fun h5 h3 => ?_, fun h5 h3 => ?_, by simp⟩
      · have hne : a ≠ b := by
          rintro rfl; rw [hx] at hy; cases hy
          revert h3; simp
        rw [decide_eq_false hne]
      · have hxy : x = y := by
          (cases x; cases y; simp_all)
        exact rnd (k + 1) ⟨hk, by rw [List.take_add_one, List.take_add_one, hx, hy, h2, hxy]⟩ (by omega)
    · rw [List.take_of_length_le (by omega), List.take_of_length_le (by omega)] at h2
      subst h2
      refine go ?_
      refine ⟨?_, by simp⟩ <;> intros
      rw [decide_eq_true rfl]
  · have hne : a ≠ b := by rintro rfl; exact hab rfl
    refine go ?_
    refine ⟨?_, by simp⟩ <;> intros
    rw [decide_eq_false hne]
theorem EqualTill_spec (a b : List Till) (A B : Option Addr) (ca cb : Nat) (P Q : HProp) (hP : Reads P Ei A a) (hQ : Reads Q Ei B b) (hl : a.length ≤ 140737488355328) (hl2 : b.length ≤ 140737488355328) :
    Trip Try.prog 50 [.slice A a.length ca, .slice B b.length cb] [P, Q] (fun v Ps => v = .bool (decide (a = b)) ∧ Ps = [P, Q]) := by
  refine Trip.of (m := 26) Try.func50 rfl rfl rfl ?_
  intro o Rs
  simp only [List.cons_append, List.nil_append, enumFrom]
  by_cases hab : a.length = b.length
  · refine go ?_
    refine ⟨?_, by simp⟩ <;> intros
    refine loop (fun k => k ≤ a.length ∧ a.take k = b.take k) (fun k => [(0, .slice A a.length ca), (1, .slice B b.length cb), (12, .int .i64 (a.length : Int)), (13, .int .i64 (k : Int))]) (fun k => P :: Q :: Rs) (fun k => a.length - k) 0 ⟨Nat.zero_le _, rfl⟩ fun k ⟨h1, h2⟩ => ?_
    by_cases hk : k < a.length
    · obtain ⟨x, hx⟩ : ∃ x, a[k]? = some x := ⟨_, List.getElem?_eq_getElem hk⟩
      obtain ⟨y, hy⟩ : ∃ y, b[k]? = some y := ⟨_, List.getElem?_eq_getElem (by omega)⟩
      refine go ?_
      refine ⟨fun h5 h3 => ?_, fun h5 h3 => ?_, by simp⟩
      · have hne : a ≠ b := by
          rintro rfl; rw [hx] at hy; cases hy
          revert h3; simp
        rw [decide_eq_false hne]
      · have hxy : x = y := by
          (cases x; cases y; simp_all)
        exact rnd (k + 1) ⟨hk, by rw [List.take_add_one, List.take_add_one, hx, hy, h2, hxy]⟩ (by omega)
    · rw [List.take_of_length_le (by omega), List.take_of_length_le (by omega)] at h2
      subst h2
      refine go ?_
      refine ⟨?_, by simp⟩ <;> intros
      rw [decide_eq_true rfl]
  · have hne : a ≠ b := by rintro rfl; exact hab rfl
    refine go ?_
    refine ⟨?_, by simp⟩ <;> intros
    rw [decide_eq_false hne]
theorem EqualStr_spec (a b : List Tx) (A B : Option Addr) (ca cb : Nat) (P Q : HProp) (hP : Reads P Enc.str A a) (hQ : Reads Q Enc.str B b) (hl : a.length ≤ 140737488355328) (hl2 : b.length ≤ 140737488355328) :
    Trip Try.prog 60 [.slice A a.length ca, .slice B b.length cb] [P, Q] (fun v Ps => v = .bool (decide (a = b)) ∧ Ps = [P, Q]) := by
  refine Trip.of (m := 26) Try.func60 rfl rfl rfl ?_
  intro o Rs
  simp only [List.cons_append, List.nil_append, enumFrom]
  by_cases hab : a.length = b.length
  · refine go ?_
    refine ⟨?_, by simp⟩ <;> intros
    refine loop (fun k => k ≤ a.length ∧ a.take k = b.take k) (fun k => [(0, .slice A a.length ca), (1, .slice B b.length cb), (12, .int .i64 (a.length : Int)), (13, .int .i64 (k : Int))]) (fun k => P :: Q :: Rs) (fun k => a.length - k) 0 ⟨Nat.zero_le _, rfl⟩ fun k ⟨h1, h2⟩ => ?_
    by_cases hk : k < a.length
    · obtain ⟨x, hx⟩ : ∃ x, a[k]? = some x := ⟨_, List.getElem?_eq_getElem hk⟩
      obtain ⟨y, hy⟩ : ∃ y, b[k]? = some y := ⟨_, List.getElem?_eq_getElem (by omega)⟩
      refine go ?_
      refine ⟨fun h5 h3 => ?_, fun h5 h3 => ?_, by simp⟩
      · have hne : a ≠ b := by
          rintro rfl; rw [hx] at hy; cases hy
          revert h3; simp
        rw [decide_eq_false hne]
      · have hxy : x = y := by
          exact h3
        exact rnd (k + 1) ⟨hk, by rw [List.take_add_one, List.take_add_one, hx, hy, h2, hxy]⟩ (by omega)
    · rw [List.take_of_length_le (by omega), List.take_of_length_le (by omega)] at h2
      subst h2
      refine go ?_
      refine ⟨?_, by simp⟩ <;> intros
      rw [decide_eq_true rfl]
  · have hne : a ≠ b := by rintro rfl; exact hab rfl
    refine go ?_
    refine ⟨?_, by simp⟩ <;> intros
    rw [decide_eq_false hne]
theorem EqEvent_spec (k k' : Int) (nm nm' tx tx' : List UInt8) (dc dc' : List Int) (D D' : Option Addr) (m m' : Nat) (P Q : HProp) (hP : Reads P (Enc.int .i64) D dc) (hQ : Reads Q (Enc.int .i64) D' dc') (hl : dc.length ≤ 1000) (hl2 : dc'.length ≤ 1000) :
    Trip Try.prog 16 [evV k nm tx D dc.length m, evV k' nm' tx' D' dc'.length m'] [P, Q] (fun v Ps => v = .bool (k == k' && (nm == nm' && (tx == tx' && decide (dc = dc')))) ∧ Ps = [P, Q]) := by
  refine Trip.of (m := 31) Try.func16 rfl rfl rfl ?_
  intro o Rs
  simp only [List.cons_append, List.nil_append, enumFrom]
  have F1 := EqualInt_spec dc dc' D D' m m' P Q hP hQ (by omega) (by omega)
  refine go ?_
  refine ⟨?_, ?_, ?_, ?_, ?_, by simp⟩ <;> intros
  all_goals simp_all
end Go.Proofs.Ythejchmhjcfdiaa
