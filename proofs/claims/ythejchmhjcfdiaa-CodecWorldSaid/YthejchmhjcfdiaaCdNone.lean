/-
  Bytes that are no world.
-/
import Derived.Test.YthejchmhjcfdiaaCdRW
namespace Go.Proofs.Ythejchmhjcfdiaa
open Go.SL
set_option linter.unusedVariables false
set_option linter.unusedSimpArgs false
set_option maxHeartbeats 4000000
theorem Is_spec (v : Value) (e e' : Int) : Trip Try.prog 17 [v, .int .i64 e'] [err v e] (fun u Ps => u = .bool (e == e') ∧ Ps = [err v e]) := by
  refine Trip.of (m := 17) Try.func17 rfl rfl rfl ?_
  intro o Rs
  simp only [List.cons_append, List.nil_append, enumFrom]
  by_cases he : e = 0
  · subst he
    by_cases h0 : e' = 0
    · subst h0
      refine go ?_
      simp
    · have hb : ((0 : Int) == e') = false := by simpa using fun h : 0 = e' => h0 h.symm
      rw [hb]
      refine go ?_
      simp
  · have F1 := errorsIs_spec v e e' he
    by_cases h0 : e' = 0
    · subst h0
      refine go ?_
      simp
    · refine go ?_
      simp
section
variable (d : Nat) (R : HProp)
theorem Int_any (b : List UInt8) (bad : Bool) : Trip Try.prog 25 [.pointer (some ⟨d, 0, none⟩)] [rdx d R b bad, R] (fun v Ps => v = .int .i64 (intD b bad).1 ∧ Ps = [rdx d R (intD b bad).2.1 (intD b bad).2.2, R]) := by
  refine Trip.exo fun x hx => (RInt_spec d x.1 x.2 _ bad R hx.1 hx.2).post ?_
  rintro v Ps ⟨A', c', h1, h2, h3, rfl⟩
  exact ⟨_, ⟨h3, rfl⟩, fun o w Rs hs => rdx_close h1 h2 hs⟩
theorem Count_any (b : List UInt8) (bad : Bool) (hr : b.length ≤ 900000) : Trip Try.prog 58 [.pointer (some ⟨d, 0, none⟩)] [rdx d R b bad, R] (fun v Ps => v = .int .i64 ((cntD b bad).1 : Nat) ∧ Ps = [rdx d R (cntD b bad).2.1 (cntD b bad).2.2, R]) := by
  refine Trip.exo fun x hx => (Count_spec d x.1 x.2 _ bad R hx.1 hx.2 (by omega)).post ?_
  rintro v Ps ⟨A', c', h1, h2, h3, rfl⟩
  exact ⟨_, ⟨h3, rfl⟩, fun o w Rs hs => rdx_close h1 h2 hs⟩
theorem eachChr_no (b : List UInt8) (bad : Bool) (h : cntD b bad = (0, [], true)) (hr : b.length ≤ 900000) : Trip Try.prog 26 [.pointer (some ⟨d, 0, none⟩), .func (.func 27) #[] #[]] [rdx d R b bad, R] (fun v Ps => v = .slice none 0 0 ∧ Ps = [rdx d R [] true, R]) := by
  refine Trip.of (m := 22) Try.func26 rfl rfl rfl ?_
  intro o Rs
  simp only [List.cons_append, List.nil_append, enumFrom]
  have F1 := Count_any d R b bad hr
  rw [h] at F1
  refine go ?_
  refine ⟨?_, by simp⟩ <;> intros
  refine loop (σ := Unit) (fun _ => True) (fun _ => [(0, .pointer (some ⟨d, 0, none⟩)), (5, .slice none 0 0), (7, .int .i64 ((0 : Nat) : Int)), (8, .int .i64 0)]) (fun _ => rdx d R [] true :: R :: Rs) (fun _ => 0) () trivial ?_
  intro _ _
  refine go ?_
  simp
theorem eachThg_no (b : List UInt8) (bad : Bool) (h : cntD b bad = (0, [], true)) (hr : b.length ≤ 900000) : Trip Try.prog 28 [.pointer (some ⟨d, 0, none⟩), .func (.func 29) #[] #[]] [rdx d R b bad, R] (fun v Ps => v = .slice none 0 0 ∧ Ps = [rdx d R [] true, R]) := by
  refine Trip.of (m := 22) Try.func28 rfl rfl rfl ?_
  intro o Rs
  simp only [List.cons_append, List.nil_append, enumFrom]
  have F1 := Count_any d R b bad hr
  rw [h] at F1
  refine go ?_
  refine ⟨?_, by simp⟩ <;> intros
  refine loop (σ := Unit) (fun _ => True) (fun _ => [(0, .pointer (some ⟨d, 0, none⟩)), (5, .slice none 0 0), (7, .int .i64 ((0 : Nat) : Int)), (8, .int .i64 0)]) (fun _ => rdx d R [] true :: R :: Rs) (fun _ => 0) () trivial ?_
  intro _ _
  refine go ?_
  simp
theorem eachMob_no (b : List UInt8) (bad : Bool) (h : cntD b bad = (0, [], true)) (hr : b.length ≤ 900000) : Trip Try.prog 31 [.pointer (some ⟨d, 0, none⟩), .func (.func 32) #[] #[]] [rdx d R b bad, R] (fun v Ps => v = .slice none 0 0 ∧ Ps = [rdx d R [] true, R]) := by
  refine Trip.of (m := 22) Try.func31 rfl rfl rfl ?_
  intro o Rs
  simp only [List.cons_append, List.nil_append, enumFrom]
  have F1 := Count_any d R b bad hr
  rw [h] at F1
  refine go ?_
  refine ⟨?_, by simp⟩ <;> intros
  refine loop (σ := Unit) (fun _ => True) (fun _ => [(0, .pointer (some ⟨d, 0, none⟩)), (5, .slice none 0 0), (7, .int .i64 ((0 : Nat) : Int)), (8, .int .i64 0)]) (fun _ => rdx d R [] true :: R :: Rs) (fun _ => 0) () trivial ?_
  intro _ _
  refine go ?_
  simp
theorem eachHse_no (b : List UInt8) (bad : Bool) (h : cntD b bad = (0, [], true)) (hr : b.length ≤ 900000) : Trip Try.prog 33 [.pointer (some ⟨d, 0, none⟩), .func (.func 34) #[] #[]] [rdx d R b bad, R] (fun v Ps => v = .slice none 0 0 ∧ Ps = [rdx d R [] true, R]) := by
  refine Trip.of (m := 22) Try.func33 rfl rfl rfl ?_
  intro o Rs
  simp only [List.cons_append, List.nil_append, enumFrom]
  have F1 := Count_any d R b bad hr
  rw [h] at F1
  refine go ?_
  refine ⟨?_, by simp⟩ <;> intros
  refine loop (σ := Unit) (fun _ => True) (fun _ => [(0, .pointer (some ⟨d, 0, none⟩)), (5, .slice none 0 0), (7, .int .i64 ((0 : Nat) : Int)), (8, .int .i64 0)]) (fun _ => rdx d R [] true :: R :: Rs) (fun _ => 0) () trivial ?_
  intro _ _
  refine go ?_
  simp
theorem eachLot_no (b : List UInt8) (bad : Bool) (h : cntD b bad = (0, [], true)) (hr : b.length ≤ 900000) : Trip Try.prog 35 [.pointer (some ⟨d, 0, none⟩), .func (.func 36) #[] #[]] [rdx d R b bad, R] (fun v Ps => v = .slice none 0 0 ∧ Ps = [rdx d R [] true, R]) := by
  refine Trip.of (m := 22) Try.func35 rfl rfl rfl ?_
  intro o Rs
  simp only [List.cons_append, List.nil_append, enumFrom]
  have F1 := Count_any d R b bad hr
  rw [h] at F1
  refine go ?_
  refine ⟨?_, by simp⟩ <;> intros
  refine loop (σ := Unit) (fun _ => True) (fun _ => [(0, .pointer (some ⟨d, 0, none⟩)), (5, .slice none 0 0), (7, .int .i64 ((0 : Nat) : Int)), (8, .int .i64 0)]) (fun _ => rdx d R [] true :: R :: Rs) (fun _ => 0) () trivial ?_
  intro _ _
  refine go ?_
  simp
theorem eachTill_no (b : List UInt8) (bad : Bool) (h : cntD b bad = (0, [], true)) (hr : b.length ≤ 900000) : Trip Try.prog 37 [.pointer (some ⟨d, 0, none⟩), .func (.func 38) #[] #[]] [rdx d R b bad, R] (fun v Ps => v = .slice none 0 0 ∧ Ps = [rdx d R [] true, R]) := by
  refine Trip.of (m := 22) Try.func37 rfl rfl rfl ?_
  intro o Rs
  simp only [List.cons_append, List.nil_append, enumFrom]
  have F1 := Count_any d R b bad hr
  rw [h] at F1
  refine go ?_
  refine ⟨?_, by simp⟩ <;> intros
  refine loop (σ := Unit) (fun _ => True) (fun _ => [(0, .pointer (some ⟨d, 0, none⟩)), (5, .slice none 0 0), (7, .int .i64 ((0 : Nat) : Int)), (8, .int .i64 0)]) (fun _ => rdx d R [] true :: R :: Rs) (fun _ => 0) () trivial ?_
  intro _ _
  refine go ?_
  simp
end
theorem ReadNone_spec (A : Option Addr) (c : Nat) (hc : 4 ≤ c) (R : HProp) (hR : Reads R Enc.u8 A [110, 111, 110, 101]) : Trip Try.prog 8 [.slice A ([110, 111, 110, 101] : Tx).length c] [R] (fun v Ps => ∃ u, v = .tuple #[.pointer none, u] ∧ Ps = [R, err u 4]) := by
  refine Trip.of (m := 53) Try.func8 rfl rfl rfl ?_
  intro o Rs
  simp only [List.cons_append, List.nil_append, enumFrom]
  refine go ?_
  refine ⟨?_, by simp⟩ <;> intros
  rename_i b
  refine W.one (by (focus (with_reducible iterate 40 first | done | exact .here | apply Find.there); done)) (fun st hst => rdx_close (d := b) (A := A) (c := c) (bad := false) hR hc hst) ?_
  have F1 := Int_any b R [110, 111, 110, 101] false
  have F2 := Int_any b R [111, 110, 101] false
  have F3 := Int_any b R [110, 101] false
  rw [show intD [110, 111, 110, 101] false = (55, [111, 110, 101], false) from by decide +kernel] at F1
  rw [show intD [111, 110, 101] false = (-56, [110, 101], false) from by decide +kernel] at F2
  rw [show intD [110, 101] false = (55, [101], false) from by decide +kernel] at F3
  have F4 := eachChr_no b R [101] false (by decide +kernel) (by decide)
  have F5 := eachThg_no b R [] true (by decide +kernel) (by decide)
  have F6 := eachMob_no b R [] true (by decide +kernel) (by decide)
  have F7 := eachHse_no b R [] true (by decide +kernel) (by decide)
  have F8 := eachLot_no b R [] true (by decide +kernel) (by decide)
  have F9 := eachTill_no b R [] true (by decide +kernel) (by decide)
  have F10 := Done_ok b R [] true
  have L := Wrap_code [119, 111, 114, 108, 100] 4 (by decide)
  refine go ?_
  refine ⟨?_, by simp⟩ <;> intros
  refine W.callr (by exact rfl) (by (focus ((repeat (first | exact Ent.done | with_reducible exact Ent.same | (apply Ent.take; (first | (focus (with_reducible iterate 40 first | done | exact .here | apply Find.there); done) | (focus (iterate 40 first | done | exact .here | apply Find.there); done))) | (apply Ent.emp (sl_emp _ _)) | apply Ent.drop)); first | done | fail))) rfl (by (first | exact Keep.nil | (focus ((repeat (first | exact Incl.nil | (apply Incl.cons; (focus (with_reducible iterate 40 first | done | exact .here | apply Find.there); done)))); first | done | fail)) | exact Keep.free rfl | (focus (apply Keep.incl; (repeat (first | exact Incl.nil | (apply Incl.cons; (focus (with_reducible iterate 40 first | done | exact .here | apply Find.there); done)))); first | done | fail)))) (L) ?_
  rintro u _ rfl
  simp only [List.cons_append, List.nil_append]
  refine go ?_
  refine ⟨?_, by simp⟩ <;> intros
  exact ret2 ⟨u, rfl, rfl⟩
end Go.Proofs.Ythejchmhjcfdiaa
