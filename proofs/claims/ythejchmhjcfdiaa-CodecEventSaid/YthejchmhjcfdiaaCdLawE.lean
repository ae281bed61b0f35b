/-
  What CodecEvent answers.
-/
import Derived.Test.YthejchmhjcfdiaaCdBeg
import Derived.Test.YthejchmhjcfdiaaCdCutE
namespace Go.Proofs.Ythejchmhjcfdiaa
open Go.SL
set_option linter.unusedVariables false
set_option linter.unusedSimpArgs false
set_option maxHeartbeats 8000000
section
variable {P : Program} {n : Nat} {o : Outer} {sr : List Tmp} {ops : Array Oper} {Q : Post} {St : List HProp} {rest : List Oper} {xs : Env} {hs : List HProp}
variable {d : Option Tmp} {ty : TypeId} {pos : String} {af : Array Edge}
/-- A whole struct read from its variable, which must stay. -/
theorem _root_.Go.SL.W.agg_stay {t b T m : Nat} {x : Operand} {cs : List Value} {r : List HProp} [h1 : AggTy P t m] (hx : ev xs x = some (.pointer (some ⟨b, 0, none⟩))) (hf : Find hs (blk b T cs) r) (hm : cs.length = m)
    (hns : stbD sr d = true) (hd : fits n d = true) (k : W P n o sr ops Q (blk b T cs :: St) rest (put d (.agg cs.toArray) xs) hs) : W P n o sr ops Q St (⟨d, .load t x, ty, pos, af, none⟩ :: rest) xs hs :=
  W.stay rfl (by simp [kind]) hns hd hf (fun a w ha hw => by
    obtain ⟨f, ⟨fr, _, rfl⟩, hf⟩ := hw
    have hb := hf b _ (one_self _ _)
    have hc : ∀ (j : Nat) (v : Value), cs[j]? = some v → w.cell? ⟨b, 0 + j, none⟩ = some v := fun j v hv => by simp [World.cell?, hb, hv]
    have hl := run_loadVar_agg (P := P) (t := t) hm hc
    show ((Instr.loadAt t (a.eval x)) >>= fun v => pure (Next.value v)).run P w = _
    rw [ha.ev hx, Sem.run_bind]
    simp [Instr.loadAt, Instr.sureAddr, hl]) k
end
theorem reads_take {α : Type} {R : HProp} {E : Enc α} {A : Option Addr} {l : List α} (n : Nat) (h : Reads R E A l) : Reads R E A (l.take n) := by
  intro f w hf hw
  rcases h f w hf hw with h0 | ⟨g, off, hA, hc⟩
  · subst h0; exact .inl List.take_nil
  · refine .inr ⟨g, off, hA, fun i v hv => hc i v ?_⟩
    have := E.all_append (l.take n) (l.drop n)
    rw [List.take_append_drop] at this
    rw [this, List.getElem?_append_left (List.getElem?_eq_some_iff.1 hv).1]
    exact hv
theorem evE_inj {k k' : Int} {nm nm' tx tx' : Tx} {dc dc' : List Int} (h : evOk k nm tx dc) (h' : evOk k' nm' tx' dc') (he : evE k nm tx dc = evE k' nm' tx' dc') : k = k' ∧ nm = nm' ∧ tx = tx' ∧ dc = dc' := by
  obtain ⟨a1, a2, a3, a4, a5⟩ := h
  obtain ⟨b1, b2, b3, b4, b5⟩ := h'
  have e0 : evE k nm tx dc = intE k ++ (textE nm ++ (textE tx ++ (listE dc ++ []))) := by simp only [evE, List.append_assoc, List.append_nil]
  have e0' : evE k' nm' tx' dc' = intE k' ++ (textE nm' ++ (textE tx' ++ (listE dc' ++ []))) := by simp only [evE, List.append_assoc, List.append_nil]
  rw [e0, e0'] at he
  have e1 := congrArg (fun b => intD b false) he
  simp only [intD_intE k a1.1 a1.2, intD_intE k' b1.1 b1.2, Prod.mk.injEq, and_true] at e1
  obtain ⟨rfl, e1⟩ := e1
  have e2 := congrArg (fun b => textD b false) e1
  simp only [textD_textE nm _ (by omega), textD_textE nm' _ (by omega), Prod.mk.injEq, and_true] at e2
  obtain ⟨rfl, e2⟩ := e2
  have e3 := congrArg (fun b => textD b false) e2
  simp only [textD_textE tx _ (by omega), textD_textE tx' _ (by omega), Prod.mk.injEq, and_true] at e3
  obtain ⟨rfl, e3⟩ := e3
  have e4 := congrArg (fun b => listD b false) e3
  simp only [listD_listE dc a4 (by omega), listD_listE dc' b4 (by omega), Prod.mk.injEq, and_true] at e4
  exact ⟨rfl, rfl, rfl, e4⟩
theorem evE_len (k : Int) (nm tx : Tx) (dc : List Int) : (evE k nm tx dc).length ≤ 36 + nm.length + tx.length + 9 * dc.length := by
  have h1 := intE_len k
  have h2 := textE_len nm
  have h3 := textE_len tx
  have h4 := listE_len dc
  simp only [evE, List.length_append]; omega
theorem CodecEvent_spec (k k' : Int) (nm nm' tx tx' : Tx) (D D' : Option Addr) (dc dc' : List Int) (m m' : Nat) (hk : OkI k) (hk' : OkI k') (hd : ∀ n ∈ dc, OkI n) (hd' : ∀ n ∈ dc', OkI n) (hm : dc.length ≤ m) (hm' : dc'.length ≤ m')
    (R : HProp) (hfr : ∀ f, R f → Fro f) (hR : Reads R E64 D dc) (hR' : Reads R E64 D' dc') :
    Trip Try.prog 4 [evV k nm tx D dc.length m, evV k' nm' tx' D' dc'.length m'] [R] (fun v Ps => v = .bool true ∧ Ps = [R]) := by
  refine Trip.of (m := 74) Try.func4 rfl rfl rfl ?_
  intro o Rs
  simp only [List.cons_append, List.nil_append, enumFrom]
  haveI : Plan 4 [14, 16] [0, 2, 1, 3, 4, 5] := ⟨⟩
  haveI : Plan 5 [18, 20] [0, 2, 1, 3, 4, 5] := ⟨⟩
  have L1 := CutEvent_spec k nm tx D dc m hm
  have L2 := CutEvent_spec k' nm' tx' D' dc' m' hm'
  have r1 := reads_take 20 hR
  have r2 := reads_take 20 hR'
  have o1 : evOk k (nm.take 40) (tx.take 130) (dc.take 20) := ⟨hk, by rw [List.length_take]; omega, by rw [List.length_take]; omega, fun n h => hd n (List.mem_of_mem_take h), by rw [List.length_take]; omega⟩
  have o2 : evOk k' (nm'.take 40) (tx'.take 130) (dc'.take 20) := ⟨hk', by rw [List.length_take]; omega, by rw [List.length_take]; omega, fun n h => hd' n (List.mem_of_mem_take h), by rw [List.length_take]; omega⟩
  have l1 : (dc.take 20).length ≤ 20 := by rw [List.length_take]; omega
  have l2 : (dc'.take 20).length ≤ 20 := by rw [List.length_take]; omega
  generalize nm.take 40 = n1 at *
  generalize tx.take 130 = t1 at *
  generalize dc.take 20 = d1 at *
  generalize nm'.take 40 = n2 at *
  generalize tx'.take 130 = t2 at *
  generalize dc'.take 20 = d2 at *
  refine C.turn (fun st hst => Sat.dup hst hfr) ?_
  have F1 := begun_spec
  refine goB ?_
  refine ⟨?_, by simp⟩ <;> intros
  clear F1
  refine W.agg_stay rfl (by (focus (with_reducible iterate 40 first | done | exact .here | apply Find.there); done)) (by exact rfl) rfl rfl ?_
  refine W.agg_stay rfl (by (focus (with_reducible iterate 40 first | done | exact .here | apply Find.there); done)) (by exact rfl) rfl rfl ?_
  have F1 := L1
  have F2 := L2
  refine goB ?_
  refine ⟨?_, by simp⟩ <;> intros
  clear F1 F2
  refine W.agg_stay rfl (by (focus (with_reducible iterate 40 first | done | exact .here | apply Find.there); done)) (by exact rfl) rfl rfl ?_
  refine W.agg_stay rfl (by (focus (with_reducible iterate 40 first | done | exact .here | apply Find.there); done)) (by exact rfl) rfl rfl ?_
  have F1 := Event_spec k hk.1 hk.2 n1 t1 o1.2.1 o1.2.2.1 d1 o1.2.2.2.1 (by omega) D m R r1
  have F2 := Event_spec k' hk'.1 hk'.2 n2 t2 o2.2.1 o2.2.2.1 d2 o2.2.2.2.1 (by omega) D' m' R r2
  refine goB ?_
  refine ⟨?_, by simp⟩ <;> intros
  clear F1 F2
  rename_i b1 b2 A1 c1 A2 c2
  refine W.cap (A := A1) (by (focus (with_reducible iterate 40 first | done | exact .here | apply Find.there); done)) fun hcap => ?_
  refine W.callr (by exact rfl) (by (focus ((repeat (first | exact Ent.done | with_reducible exact Ent.same | (apply Ent.take; (first | (focus (with_reducible iterate 40 first | done | exact .here | apply Find.there); done) | (focus (iterate 40 first | done | exact .here | apply Find.there); done))) | (apply Ent.emp (sl_emp _ _)) | apply Ent.drop)); first | done | fail))) rfl (by (focus ((repeat (first | exact Incl.nil | (apply Incl.cons; (focus (with_reducible iterate 40 first | done | exact .here | apply Find.there); done)))); first | done | fail))) ((ReadEvent_ok k n1 t1 d1 o1 A1 c1 hcap (sl Enc.u8 5 A1 c1 (evE k n1 t1 d1)) reads_sl)) ?_
  rintro _ _ ⟨B, q, rfl, rfl⟩
  simp only [List.cons_append, List.nil_append]
  have hlen := evE_len k n1 t1 d1
  have F1 := RefEqEvent_spec k k' n1 n2 t1 t2 d1 d2 D D' m m' R R r1 r2 (by omega) (by omega)
  have F2 := RefEqEvent_spec k k n1 n1 t1 t1 d1 d1 D B m q R (sl E64 3 B q d1) r1 reads_sl (by omega) (by omega)
  have F3 := EqEvent_spec k k' n1 n2 t1 t2 d1 d2 D D' m m' R R r1 r2 (by omega) (by omega)
  have hsame : (evE k n1 t1 d1 == evE k' n2 t2 d2) = (k == k' && (n1 == n2 && (t1 == t2 && d1 == d2))) := by
    rw [Bool.eq_iff_iff]
    simp only [beq_iff_eq, Bool.and_eq_true]
    refine ⟨fun h => ?_, fun h => by obtain ⟨rfl, rfl, rfl, rfl⟩ := h; rfl⟩
    have := evE_inj o1 o2 h
    exact this
  have hdec : decide (d1 = d2) = (d1 == d2) := by rw [Bool.eq_iff_iff]; simp
  rw [hdec] at F3
  simp only [beq_self_eq_true, Bool.and_self] at F2
  generalize (k == k' && (n1 == n2 && (t1 == t2 && d1 == d2))) = s at F1 F3 hsame
  have hn := o1.2.1
  have ht := o1.2.2.1
  have hn' := o2.2.1
  have ht' := o2.2.2.1
  refine goB ?_
  refine ⟨?_, fun _ _ h => absurd hsame h, by simp⟩
  intros
  refine congrArg Value.bool (decide_eq_true ?_)
  omega
end Go.Proofs.Ythejchmhjcfdiaa
