/-
  Walks and laws joined: WdComes.
-/
import Derived.Test.YtflmbhkjhfmeoaaGreatQ23
import Derived.Test.YtflmbhkjhfmeoaaGreatQ22
import Derived.Test.YtflmbhkjhfmeoaaGreatQ26
import Derived.Test.YtflmbhkjhfmeoaaGreatQ05
set_option linter.unusedVariables false
set_option linter.unusedSimpArgs false
namespace Go.Proofs.YtflmbhkjhfmeoaaGreat
open Go.SL
set_option maxHeartbeats 8000000
set_option maxRecDepth 20000
def ltC (a b : Chr) : Bool := ltTx a.name b.name
def ltC2 (a b : Chr × PA) : Bool := ltTx a.1.name b.1.name
section
variable (t d e : Nat) (m : Lay) (w : Wld) (mt : Tay) (tab : Tab) (S : List Sy) (u : Int)
theorem step_new (bw : Bw w) (bt : Bt tab) (lm : Laid m w) (R : HProp) [hr : RT R e mt tab] (nm tx : Tx) (D : Option Addr) (dc : List Int) (mm : Nat) (hnl : nm.length ≤ 1000) (htl : tx.length ≤ 1000) (hmi : -4611686018427387904 ≤ w.minted ∧ w.minted ≤ 4611686018427387904) :
    Trip Tryz.prog 51 [.pointer (some ⟨t, 0, none⟩), evV 1 nm tx D dc.length mm] [ts t d e S u, wl d m w, R] (fun v Ps => ∃ m', v = .tuple #[] ∧ Ps = [ts t d e S u, wl d m' (newA tab w nm tx), R]) := by
  refine Trip.of (m := 234) Tryz.func51 rfl rfl rfl ?_
  intro o Rs
  simp only [List.cons_append, List.nil_append, enumFrom]
  haveI : Plan 1 [13, 15] [0, 1, 2, 3, 4, 5, 6, 7] := ⟨⟩
  haveI : Plan 5 [49, 52, 55, 57, 61] [0, 1, 2, 3, 4, 5, 6, 8, 9, 10, 11, 12, 13, 14, 15, 7, 16, 17, 18, 19, 20] := ⟨⟩
  haveI : Plans 9 [89, 91, 95] [9, 10, 11, 12] [[0, 1, 2, 3, 4, 5, 6, 7, 8, 9, 10, 11, 12], [0, 1, 2, 3, 4, 5, 6, 7, 8, 10, 9, 11, 12]] := ⟨⟩
  haveI : Plan 17 [151, 153] [0, 1, 2, 3, 4, 5, 6, 7, 8] := ⟨⟩
  haveI : Plan 18 [162, 165, 169, 171, 173] [0, 1, 2, 3, 4, 5, 6, 7, 8, 9, 10, 11, 12, 13, 14, 15, 16, 17, 18] := ⟨⟩
  have b1 := bw.nc
  have F1 := Char_spec d m w nm (by omega) lm (wl d m w)
  unfold newA
  cases hc : charI w nm with
  | some k =>
    rw [hc] at F1
    simp only [iv, Option.isSome_some, true_or, if_true] at F1 ⊢
    refine goW ?_
    refine ⟨?_, by simp⟩ <;> intros
    exact ret0 ⟨m, rfl, rfl⟩
  | none =>
    rw [hc] at F1
    simp only [iv, Option.isSome_none, Bool.false_eq_true, false_or] at F1 ⊢
    have F2 := Name_spec nm (by omega)
    have F3 := Hash_spec tx (by omega)
    clear hc
    cases hnb : nameB nm with
    | false =>
      rw [hnb] at F2
      simp only [true_or, if_true]
      refine goW ?_
      refine ⟨?_, by simp⟩ <;> intros
      exact ret0 ⟨m, rfl, rfl⟩
    | true =>
    rw [hnb] at F2
    cases hhb : hashB tx with
    | false =>
      rw [hhb] at F3
      simp only [true_or, or_true, if_true]
      refine goW ?_
      refine ⟨?_, by simp⟩ <;> intros
      exact ret0 ⟨m, rfl, rfl⟩
    | true =>
    rw [hhb] at F3
    simp only [Bool.true_eq_false, false_or]
    by_cases h24 : 24 ≤ w.chars.length
    · rw [if_pos h24]
      refine goW ?_
      refine ⟨?_, by simp⟩ <;> intros
      exact ret0 ⟨m, rfl, rfl⟩
    rw [if_neg h24]
    clear hnb hhb
    have F4 := Start_spec e mt tab bt R
    have zc : w.chars.length = (w.chars.zip m.dn).length := by rw [List.length_zip, lm.1, Nat.min_self]
    obtain ⟨n0, hn0⟩ : ∃ n0 : Chr, n0 = ⟨nm, tx, false, startR tab, 20, 0, 100, 0, 0, []⟩ := ⟨_, rfl⟩
    obtain ⟨zs, hzs⟩ : ∃ zs, zs = w.chars.zip m.dn := ⟨_, rfl⟩
    obtain ⟨z, hze⟩ : ∃ z, z = (n0, ((none, 0) : PA)) := ⟨_, rfl⟩
    have hzl : zs.length = w.chars.length := by rw [hzs]; exact zc.symm
    have hzn : z.1.name = nm := by rw [hze, hn0]
    refine goW ?_
    (repeat' (first | exact trivial | apply And.intro | intro _))
    all_goals first
      | (exfalso; first | contradiction | omega)
      | skip
    rename Option Addr => A'
    rename Nat => c'
    rw [← hn0, ← hze, ← hzs]
    clear F1 F2 F3 F4
    refine loop (σ := Nat) (fun k => k ≤ zs.length ∧ insK ltC2 zs z k = insP ltC2 zs z) (fun k => [(0, .pointer (some ⟨t, 0, none⟩)), (5, .slice A' (zs ++ [z]).length c'), (6, .int .i64 (k : Int))]) (fun k => sl Ec 80 A' c' (putAt zs k z) :: ts t d e S u :: wl d m w :: R :: Rs) (fun k => k) zs.length ⟨Nat.le_refl _, rfl⟩ ?_ ⟨rfl, rfl, congrArg (fun z => some (Value.int .i64 z)) (by rw [List.length_append]; simp), trivial⟩ (by rw [putAt_end]; (exact ent_))
    rintro k ⟨hk1, hk2⟩
    have hpl := putAt_len zs k z
    have hal : (zs ++ [z]).length = zs.length + 1 := by rw [List.length_append]; rfl
    have hps := putAt_self hk1 z
    clear zc
    by_cases hk0 : 0 < k
    · obtain ⟨y, hy⟩ : ∃ y, zs[k - 1]? = some y := ⟨_, List.getElem?_eq_getElem (by omega)⟩
      have hy2 : (putAt zs k z)[((k : Int) - 1).toNat]? = some y := by rw [show ((k : Int) - 1).toNat = k - 1 by omega, putAt_pre (by omega) hk1]; exact hy
      have hsw := putAt_swap hk0 hy z
      rw [show k - 1 = ((k : Int) - 1).toNat by omega] at hsw
      generalize hL : putAt zs k z = L at *
      cases hlt : ltC2 z y with
      | true =>
        have hgo := ins_go hk2 hk0 hy hlt
        unfold ltC2 at hlt
        rw [ltTx_eq] at hlt
        clear hk2 hy
        replace hsw := Bx.mk hsw
        replace hgo := Bx.mk hgo
        refine goW ?_
        (repeat' (first | exact trivial | apply And.intro | intro _))
        all_goals first
          | (exfalso; first | contradiction | exact Bool.noConfusion (hlt.symm.trans (by assumption : Op.bytesLess z.1.name y.1.name = false)))
          | skip
        all_goals (
          refine W.sta (En := Ec) (m := 10) (sz := 10) z (by exact rfl) (by exact rfl) (by exact find_) rfl rfl (by omega) rfl rfl (by exact incl_) ?_
          refine goW ?_
          refine ⟨?_, by simp⟩
          refine W.sta (En := Ec) (m := 10) (sz := 10) y (by exact rfl) (by exact rfl) (by exact find_) rfl rfl (by rw [List.length_set]; omega) rfl rfl (by exact incl_) ?_
          refine goW ?_
          refine ⟨?_, by simp⟩
          exact rnd (k - 1) ⟨by omega, hgo.get⟩ (by omega) ⟨rfl, rfl, congrArg (fun z => some (Value.int .i64 z)) (by omega), trivial⟩ (by rw [hsw.get, show ((k : Int) - 1).toNat = k - 1 by omega]; (exact ent_)))
      | false =>
        have hend := ins_end hk2 hk0 hy hlt
        unfold ltC2 at hlt
        rw [ltTx_eq] at hlt
        have hnl : ¬ Op.bytesLess z.1.name y.1.name = true := by rw [hlt]; decide
        rw [hL] at hend
        clear hk2 hy
        refine goW ?_
        (repeat' (first | exact trivial | apply And.intro | intro _))
        all_goals first
          | (exfalso; contradiction)
          | skip
        refine W.newCs (hz := L) (insB ltC w.chars n0) (putAt m.dn (insP ltC w.chars n0) (none, 0)) (by exact rfl) (by exact rfl) (by exact find_) (by exact find_) (by rw [hend, hzs, hze, insB_zip ltC ltC2 (fun _ _ => rfl) _ _ lm.1, putAt_zip lm.1]; rfl) (by rw [putAt_len, lm.1]; exact (putAt_len _ _ _).symm) (by rw [hal, hzl]; exact (putAt_len _ _ _).symm) (by exact incl_) (fun st q hst => ?_) ?_
        · have h2 := nest_putAt (insP ltC w.chars n0) hst
          show Sat o st (nest E64 3 (((putAt w.chars _ _).zip (putAt m.dn _ _)).map fun p => (p.1.done, p.2)) :: q)
          rw [← putAt_zip lm.1, putAt_map, hn0]
          rw [hn0] at h2
          exact h2
        refine goW ?_
        (repeat' (first | exact trivial | apply And.intro | intro _))
        rw [hn0]
        exact ret0 ⟨_, rfl, rfl⟩
    · have hk3 : k = 0 := by omega
      subst hk3
      have hend := ins_nil hk2
      generalize putAt zs 0 z = L at *
      clear hk2
      refine goW ?_
      (repeat' (first | exact trivial | apply And.intro | intro _))
      all_goals first
        | (exfalso; contradiction)
        | skip
      refine W.newCs (hz := L) (insB ltC w.chars n0) (putAt m.dn (insP ltC w.chars n0) (none, 0)) (by exact rfl) (by exact rfl) (by exact find_) (by exact find_) (by rw [hend, hzs, hze, insB_zip ltC ltC2 (fun _ _ => rfl) _ _ lm.1, putAt_zip lm.1]; rfl) (by rw [putAt_len, lm.1]; exact (putAt_len _ _ _).symm) (by rw [hal, hzl]; exact (putAt_len _ _ _).symm) (by exact incl_) (fun st q hst => ?_) ?_
      · have h2 := nest_putAt (insP ltC w.chars n0) hst
        show Sat o st (nest E64 3 (((putAt w.chars _ _).zip (putAt m.dn _ _)).map fun p => (p.1.done, p.2)) :: q)
        rw [← putAt_zip lm.1, putAt_map, hn0]
        rw [hn0] at h2
        exact h2
      refine goW ?_
      (repeat' (first | exact trivial | apply And.intro | intro _))
      rw [hn0]
      exact ret0 ⟨_, rfl, rfl⟩
end
end Go.Proofs.YtflmbhkjhfmeoaaGreat
