/-
  The statement BitsAll, walked.
-/
import Derived.Test.YthejchmhjcfdiaaDoorBiLaw
import Derived.Test.YthejchmhjcfdiaaDoorSLArgs
import Derived.Test.YthejchmhjcfdiaaDoorSLGo
namespace Go.Proofs.YthejchmhjcfdiaaDoor
open Go.SL
set_option linter.unusedVariables false
set_option linter.unusedSimpArgs false
set_option maxHeartbeats 4000000
@[reducible] def Enc.op4 : Enc (Int × Int) := ⟨2, fun h => [.int .i64 h.1, .int .i64 h.2], fun _ => rfl, fun x v h => by simp at h; rcases h with rfl | rfl <;> rfl, by decide⟩
def wantFrom (l : List Bool) (k : Nat) : Int := if fre (l.drop k) < (l.drop k).length then ((k + fre (l.drop k) : Nat) : Int) else -1
theorem want_free {l : List Bool} {k : Nat} (h : l[k]? = some false) : wantFrom l k = k := by
  obtain ⟨hk, he⟩ := List.getElem?_eq_some_iff.1 h
  rw [wantFrom, List.drop_eq_getElem_cons hk, he]; simp [fre]
theorem want_taken {l : List Bool} {k : Nat} (h : l[k]? = some true) : wantFrom l k = wantFrom l (k + 1) := by
  obtain ⟨hk, he⟩ := List.getElem?_eq_some_iff.1 h
  rw [wantFrom, List.drop_eq_getElem_cons hk, he, wantFrom]; simp only [fre, if_true, List.length_cons]
  split
  · rw [if_pos (by omega)]; omega
  · rw [if_neg (by omega)]
theorem turn_in {N : Nat} {hv : List Bool} {m : Nat} {b : Bool} (t : Bool) (hh : hv.length = N) (hb : hv[m]? = some b) : turnE N hv m t = (if b == t then 4 else 0) ∧ turnM N hv m t = (if b == t then hv else hv.set m (!b)) := by
  have hm := (List.getElem?_eq_some_iff.1 hb).1
  have hin : 0 ≤ (m : Int) ∧ (m : Int) < N := by omega
  have hg : hv.getD m false = b := by rw [List.getD_eq_getElem?_getD, hb]; rfl
  have hs : hasM hv (m : Int) = b := by simp only [hasM, Int.toNat_natCast, hg, Int.natCast_nonneg, decide_true, Bool.true_and]
  rw [turnE, if_pos hin, turnM, if_pos hin, hs, Int.toNat_natCast, hg]; exact ⟨rfl, rfl⟩
theorem dec_op4 (W : World) : Dec Tryd.prog W 28 Enc.op4 (fun x => (Lit.int .i64 x.1).wf = true ∧ (Lit.int .i64 x.2).wf = true) :=
  (dec_struct Tryd.underlying28 (by kernel_rfl) (.cons (dec_int Tryd.underlying3) rfl (by kernel_rfl) rfl (.one (dec_int Tryd.underlying3) rfl (by kernel_rfl)))).map (fun x => x) (fun _ => rfl) (fun _ h => h)
theorem BitsAll_spec (n : Int) (ops : List (Int × Int)) (A : Option Addr) (c : Nat) (B : HProp) (hB : Reads B Enc.op4 A ops) (hO : ∀ x ∈ ops, -9223372036854775808 ≤ x.2 ∧ x.2 ≤ 9223372036854775807) (hlen : ops.length ≤ 9223372036854775807) :
    Trip Tryd.prog 3 [.int .i64 n, .slice A ops.length c] [gl, B] (fun v Ps => v = .bool true ∧ Ps = [gl, B]) := by
  refine Trip.of (m := 196) Tryd.func3 rfl rfl rfl ?_
  intro o Rs
  simp only [List.cons_append, List.nil_append, enumFrom]
  have F1 := begun_map
  have F2 := Is_spec
  refine gor ?_
  refine ⟨?_, by simp⟩ <;> intros
  refine C.seq ?_
  refine gor ?_
  refine ⟨?_, by simp⟩ <;> intros
  refine C.join (σ := Nat) (fun N => N ≤ 100) (fun N => [(0, .int .i64 (N : Int)), (1, .slice A ops.length c), (5, .bool true)]) (fun _ => gl :: B :: Rs) ?_ ?_
  · refine go ?_
    refine ⟨fun h1 h2 => ?_, fun h1 h2 => ?_, fun h1 => ?_, by simp⟩
    · exact jn 20 (show 20 ≤ 100 by decide)
    · obtain ⟨N, rfl⟩ := Int.eq_ofNat_of_zero_le h1
      exact jn N (show N ≤ 100 by omega)
    · exact jn 20 (show 20 ≤ 100 by decide)
  intro N hN
  have F3 := New_map N (by omega)
  refine gor ?_
  refine ⟨fun p0 => ?_, by simp⟩
  refine W.make Enc.bool false rfl rfl rfl (by first | omega | (simp only [List.length_append, List.length_cons, List.length_nil, List.length_set, List.length_map, List.length_take, List.length_drop, List.length_replicate]; omega) | fail) (by first | omega | (simp only [List.length_append, List.length_cons, List.length_nil, List.length_set, List.length_map, List.length_take, List.length_drop, List.length_replicate]; omega) | fail) (by first | omega | (simp only [List.length_append, List.length_cons, List.length_nil, List.length_set, List.length_map, List.length_take, List.length_drop, List.length_replicate]; omega) | fail) (by first | omega | (simp only [List.length_append, List.length_cons, List.length_nil, List.length_set, List.length_map, List.length_take, List.length_drop, List.length_replicate]; omega) | fail) rfl (by (focus ((repeat (first | exact Incl.nil | (apply Incl.cons; (focus (with_reducible iterate 40 first | done | exact .here | apply Find.there); done)))); first | done | fail))) (fun g => ?_)
  rw [show Int.toNat (N : Int) = N from Int.toNat_natCast N]
  refine gor ?_
  refine ⟨?_, by simp⟩ <;> intros
  refine C.seq ?_
  refine gor ?_
  refine ⟨?_, by simp⟩ <;> intros
  refine loop (σ := Nat × List Bool × Nat) (fun s => s.1 ≤ ops.length ∧ s.1 ≤ 150 ∧ s.2.1.length = N)
    (fun s => [(0, .int .i64 (N : Int)), (1, .slice A ops.length c), (5, .bool true), (6, .pointer (some ⟨s.2.2, 0, none⟩)), (7, .slice (some ⟨g, 0, none⟩) s.2.1.length N), (8, .int .i64 (s.1 : Int))])
    (fun s => sl Enc.bool 4 (some ⟨g, 0, none⟩) N s.2.1 :: bmap s.2.2 N s.2.1 :: gl :: B :: Rs) (fun s => 150 - s.1) (0, List.replicate N false, p0) ⟨Nat.zero_le _, Nat.zero_le _, by simp⟩ ?_
  rintro ⟨i, hv, p⟩ ⟨hi, hi2, hh⟩
  simp only at hi hi2 hh ⊢
  refine C.seq ?_
  refine gor ?_
  refine ⟨fun h1 h2 => ?_, by simp⟩
  · have hlt : i < ops.length := by omega
    obtain ⟨⟨kind, ix⟩, hy⟩ : ∃ y, ops[i]? = some y := ⟨_, List.getElem?_eq_getElem hlt⟩
    have hr := hO _ (List.mem_of_getElem? hy)
    simp only at hr
    have hr1 := hr.1
    have hr2 := hr.2
    refine C.seq ?_
    refine C.block ?_
    refine C.seq ?_
    refine C.region ?_
    refine gow ?_
    refine ⟨fun q => ?_, by simp⟩
    refine E.then_normal ?_
    refine C.join (σ := Unit) (fun _ => True)
      (fun _ => [(0, .int .i64 (N : Int)), (1, .slice A ops.length c), (5, .bool true), (6, .pointer (some ⟨p, 0, none⟩)), (7, .slice (some ⟨g, 0, none⟩) hv.length N), (8, .int .i64 (i : Int)), (9, .pointer (some ⟨q, 0, none⟩)), (10, .bool (decide (0 ≤ ix) && decide (ix < N)))])
      (fun _ => blk q 28 [.int .i64 kind, .int .i64 ix] :: sl Enc.bool 4 (some ⟨g, 0, none⟩) N hv :: bmap p N hv :: gl :: B :: Rs) ?_ ?_
    · refine C.region ?_
      refine go ?_
      refine ⟨fun h1 => ?_, fun h1 => ?_, by simp⟩
      · exact jn () trivial ⟨rfl, rfl, rfl, rfl, rfl, rfl, rfl, by rw [decide_eq_true h1, Bool.true_and]; rfl, trivial⟩
      · exact jn () trivial ⟨rfl, rfl, rfl, rfl, rfl, rfl, rfl, by rw [decide_eq_false (by omega), Bool.false_and]; rfl, trivial⟩
    rintro ⟨⟩ -
    refine C.join (σ := List Bool × Nat) (fun s => s.1.length = N)
      (fun s => [(0, .int .i64 (N : Int)), (1, .slice A ops.length c), (5, .bool true), (6, .pointer (some ⟨s.2, 0, none⟩)), (7, .slice (some ⟨g, 0, none⟩) s.1.length N), (8, .int .i64 (i : Int))])
      (fun s => sl Enc.bool 4 (some ⟨g, 0, none⟩) N s.1 :: bmap s.2 N s.1 :: gl :: B :: Rs) ?_ ?_
    · by_cases hk0 : kind = 0
      · subst hk0
        have F4 := Take_map p N hv (by omega) hh
        refine go ?_
        refine ⟨fun w => ?_, by simp⟩
        refine loop (σ := Int) (fun j => -1 ≤ j ∧ j < N)
          (fun j => [(0, .int .i64 (N : Int)), (1, .slice A ops.length c), (5, .bool true), (6, .pointer (some ⟨p, 0, none⟩)), (7, .slice (some ⟨g, 0, none⟩) hv.length N), (8, .int .i64 (i : Int)), (11, .int .i64 (if fre hv < N then fre hv else -1)), (12, w), (13, .int .i64 (wantFrom hv (j + 1).toNat)), (14, .int .i64 j)])
          (fun j => err w (if fre hv < N then 0 else 2) :: sl Enc.bool 4 (some ⟨g, 0, none⟩) N hv :: bmap p N (hv.set (fre hv) true) :: gl :: B :: Rs) (fun j => (j + 1).toNat) ((N : Int) - 1) ⟨by omega, by omega⟩ ?_ ⟨rfl, rfl, rfl, rfl, rfl, rfl, rfl, rfl, ?_, rfl, trivial⟩
        rotate_left
        · have hw : wantFrom hv ((N : Int) - 1 + 1).toNat = -1 := by rw [show ((N : Int) - 1 + 1).toNat = hv.length from by omega]; simp [wantFrom, fre]
          exact congrArg (fun z => some (Value.int .i64 z)) hw.symm
        rintro j ⟨j1, j2⟩
        refine C.seq ?_
        refine gor ?_
        refine ⟨fun h1 => ?_, fun h1 => ?_, by simp⟩
        · obtain ⟨m, rfl⟩ := Int.eq_ofNat_of_zero_le h1
          obtain ⟨b, hb⟩ : ∃ b, hv[m]? = some b := ⟨_, List.getElem?_eq_getElem (by omega)⟩
          cases b
          · refine go ?_
            refine ⟨?_, by simp⟩ <;> intros
            refine rnd ((m : Int) - 1) ⟨by omega, by omega⟩ (by omega) ⟨rfl, rfl, rfl, rfl, rfl, rfl, rfl, rfl, ?_, rfl, trivial⟩
            have hw : wantFrom hv ((m : Int) - 1 + 1).toNat = m := by rw [show ((m : Int) - 1 + 1).toNat = m from by omega, want_free hb]
            exact congrArg (fun z => some (Value.int .i64 z)) hw.symm
          · refine go ?_
            refine ⟨?_, by simp⟩ <;> intros
            refine rnd ((m : Int) - 1) ⟨by omega, by omega⟩ (by omega) ⟨rfl, rfl, rfl, rfl, rfl, rfl, rfl, rfl, ?_, rfl, trivial⟩
            have hw : wantFrom hv ((m : Int) - 1 + 1).toNat = wantFrom hv ((m : Int) + 1).toNat := by rw [show ((m : Int) - 1 + 1).toNat = m from by omega, want_taken hb]; rfl
            exact congrArg (fun z => some (Value.int .i64 z)) hw.symm
        · have hj : j = -1 := by omega
          subst hj
          have hw0 : wantFrom hv (-1 + 1 : Int).toNat = if fre hv < N then (fre hv : Int) else -1 := by
            show wantFrom hv 0 = _
            simp only [wantFrom, List.drop_zero, Nat.zero_add, hh]
          rw [hw0]
          by_cases hf : fre hv < N
          · simp only [if_pos hf]
            refine go ?_
            refine ⟨?_, by simp⟩ <;> intros
            exact jn (hv.set (fre hv) true, p) (by simp [hh]) ⟨rfl, rfl, rfl, rfl, by rw [List.length_set]; rfl, rfl, trivial⟩
          · have := fre_le hv
            rw [List.set_eq_of_length_le (show hv.length ≤ fre hv by omega)]
            simp only [if_neg hf]
            refine go ?_
            refine ⟨?_, by simp⟩ <;> intros
            exact jn (hv, p) hh
      · by_cases hk1 : kind = 1
        · subst hk1
          have F4 := Free_map p N hv ix (by omega) hr1 hr2
          by_cases hin : 0 ≤ ix ∧ ix < N
          · obtain ⟨m, rfl⟩ := Int.eq_ofNat_of_zero_le hin.1
            obtain ⟨b, hb⟩ : ∃ b, hv[m]? = some b := ⟨_, List.getElem?_eq_getElem (by omega)⟩
            rw [(turn_in false hh hb).1, (turn_in false hh hb).2] at F4
            rw [decide_eq_true hin.1, decide_eq_true hin.2]
            cases b
            · skip
              refine go ?_
              refine ⟨?_, by simp⟩ <;> intros
              exact jn (hv, p) (by first | exact hh | (rw [List.length_set]; exact hh)) ⟨rfl, rfl, rfl, rfl, by first | rfl | (rw [List.length_set]; rfl), rfl, trivial⟩
            · skip
              refine go ?_
              refine ⟨?_, by simp⟩ <;> intros
              exact jn (hv.set m false, p) (by first | exact hh | (rw [List.length_set]; exact hh)) ⟨rfl, rfl, rfl, rfl, by first | rfl | (rw [List.length_set]; rfl), rfl, trivial⟩
          · rw [show turnE N hv ix false = 1 from if_neg hin, show turnM N hv ix false = hv from if_neg hin] at F4
            rw [show (decide (0 ≤ ix) && decide (ix < N)) = false from by simpa using hin]
            refine go ?_
            refine ⟨?_, by simp⟩ <;> intros
            exact jn (hv, p) (by first | exact hh | (rw [List.length_set]; exact hh)) ⟨rfl, rfl, rfl, rfl, by first | rfl | (rw [List.length_set]; rfl), rfl, trivial⟩
        · by_cases hk2 : kind = 2
          · subst hk2
            have F4 := Set_map p N hv ix (by omega) hr1 hr2
            by_cases hin : 0 ≤ ix ∧ ix < N
            · obtain ⟨m, rfl⟩ := Int.eq_ofNat_of_zero_le hin.1
              obtain ⟨b, hb⟩ : ∃ b, hv[m]? = some b := ⟨_, List.getElem?_eq_getElem (by omega)⟩
              rw [(turn_in true hh hb).1, (turn_in true hh hb).2] at F4
              rw [decide_eq_true hin.1, decide_eq_true hin.2]
              cases b
              · skip
                refine go ?_
                refine ⟨?_, by simp⟩ <;> intros
                exact jn (hv.set m true, p) (by first | exact hh | (rw [List.length_set]; exact hh)) ⟨rfl, rfl, rfl, rfl, by first | rfl | (rw [List.length_set]; rfl), rfl, trivial⟩
              · skip
                refine go ?_
                refine ⟨?_, by simp⟩ <;> intros
                exact jn (hv, p) (by first | exact hh | (rw [List.length_set]; exact hh)) ⟨rfl, rfl, rfl, rfl, by first | rfl | (rw [List.length_set]; rfl), rfl, trivial⟩
            · rw [show turnE N hv ix true = 1 from if_neg hin, show turnM N hv ix true = hv from if_neg hin] at F4
              rw [show (decide (0 ≤ ix) && decide (ix < N)) = false from by simpa using hin]
              refine go ?_
              refine ⟨?_, by simp⟩ <;> intros
              exact jn (hv, p) (by first | exact hh | (rw [List.length_set]; exact hh)) ⟨rfl, rfl, rfl, rfl, by first | rfl | (rw [List.length_set]; rfl), rfl, trivial⟩
          · refine go ?_
            refine ⟨?_, by simp⟩ <;> intros
            refine cal (Bytes_map p N hv (by omega)) ?_
            rintro v Ps ⟨A1, c1, ⟨bs, hbs⟩, rfl, rfl⟩
            have F4 := Load_map N hv bs A1 c1 (by omega) hbs
            simp only [List.cons_append, List.nil_append]
            refine go ?_
            refine ⟨fun p2 => ?_, by simp⟩
            exact jn (hv, p2) hh
    rintro ⟨hv', p'⟩ hh'
    simp only at hh' ⊢
    refine go ?_
    refine ⟨?_, by simp⟩ <;> intros
    refine loop (σ := Int) (fun j => -1 ≤ j ∧ j ≤ N + 1)
      (fun j => [(0, .int .i64 (N : Int)), (1, .slice A ops.length c), (5, .bool true), (6, .pointer (some ⟨p', 0, none⟩)), (7, .slice (some ⟨g, 0, none⟩) hv'.length N), (8, .int .i64 (i : Int)), (18, .int .i64 ((hv'.take j.toNat).count false : Int)), (19, .int .i64 j)])
      (fun j => sl Enc.bool 4 (some ⟨g, 0, none⟩) N hv' :: bmap p' N hv' :: gl :: B :: Rs) (fun j => (N + 1 - j).toNat) (-1) ⟨by omega, by omega⟩ ?_
    rintro j ⟨j1, j2⟩
    have hc : (hv'.take j.toNat).count false ≤ N := by have := List.count_le_length (a := false) (l := hv'.take j.toNat); rw [List.length_take] at this; omega
    refine C.seq ?_
    refine gor ?_
    refine ⟨fun h1 => ?_, fun h1 => ?_, by simp⟩
    · by_cases hj : 0 ≤ j ∧ j < N
      · obtain ⟨m, rfl⟩ := Int.eq_ofNat_of_zero_le hj.1
        obtain ⟨b, hb⟩ : ∃ b, hv'[m]? = some b := ⟨_, List.getElem?_eq_getElem (by omega)⟩
        have hs : hasM hv' (m : Int) = b := by simp only [hasM, Int.toNat_natCast, List.getD_eq_getElem?_getD, hb, Int.natCast_nonneg, decide_true, Bool.true_and]; rfl
        have F4 := Has_map p' N hv' (m : Int) (by omega)
        rw [hs] at F4
        have hcn : (hv'.take ((m : Int) + 1).toNat).count false = (hv'.take m).count false + if b then 0 else 1 := by
          rw [show ((m : Int) + 1).toNat = m + 1 from by omega, List.take_add_one, hb, List.count_append]; cases b <;> rfl
        cases b
        · refine go ?_
          refine ⟨?_, by simp⟩ <;> intros
          refine rnd ((m : Int) + 1) ⟨by omega, by omega⟩ (by omega) ⟨rfl, rfl, rfl, rfl, rfl, rfl, ?_, rfl, trivial⟩
          exact congrArg (fun z : Nat => some (Value.int .i64 (z : Int))) hcn.symm
        · refine go ?_
          refine ⟨?_, by simp⟩ <;> intros
          refine rnd ((m : Int) + 1) ⟨by omega, by omega⟩ (by omega) ⟨rfl, rfl, rfl, rfl, rfl, rfl, ?_, rfl, trivial⟩
          exact congrArg (fun z : Nat => some (Value.int .i64 (z : Int))) hcn.symm
      · have F4 := Has_map p' N hv' j (by omega)
        have hs : hasM hv' j = false := by
          simp only [hasM]
          by_cases h0 : 0 ≤ j
          · rw [List.getD_eq_getElem?_getD, List.getElem?_eq_none (by omega)]; simp
          · rw [decide_eq_false h0]; rfl
        rw [hs] at F4
        have hcn : (hv'.take (j + 1).toNat).count false = (hv'.take j.toNat).count false := by
          by_cases h0 : 0 ≤ j
          · rw [List.take_of_length_le (by omega), List.take_of_length_le (by omega)]
          · rw [show j = -1 from by omega]; rfl
        refine go ?_
        refine ⟨?_, ?_, by simp⟩ <;> intros
        all_goals
          refine rnd (j + 1) ⟨by omega, by omega⟩ (by omega) ⟨rfl, rfl, rfl, rfl, rfl, rfl, ?_, rfl, trivial⟩
          exact congrArg (fun z : Nat => some (Value.int .i64 (z : Int))) hcn.symm
    · have F4 := Left_map p' N hv' (by omega) hh'
      have hcn : hv'.take j.toNat = hv' := List.take_of_length_le (by omega)
      rw [hcn]
      refine go ?_
      refine ⟨?_, by simp⟩ <;> intros
      exact rnd (i + 1, hv', p') ⟨by simp only; omega, by simp only; omega, hh'⟩ (by simp only; omega)
end Go.Proofs.YthejchmhjcfdiaaDoor
