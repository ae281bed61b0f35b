/-
  CodecEvent answers true for every two events. No condition.
-/
import Derived.Test.YthejchmhjcfdiaaRows
import Derived.Test.YthejchmhjcfdiaaCdLawE
import Derived.Test.YthejchmhjcfdiaaSLArgs
import Derived.WalkKit
import Derived.ProofKit
import Derived.OpenShut
import Derived.ShutString
import Derived.ChangeOld
import Derived.Below
namespace Go.Proofs.Ythejchmhjcfdiaa.codecEvent
open Go.ChangeShapes Go.WideShapes Go.ChangeAt Go.RowKit Go.SL
open Go.ChangeMaps (open_string shut_string)
set_option linter.unusedVariables false

theorem own : ownKnob Try.prog.godebug = none := by kernel_rfl
theorem laidOut : laidOutB Try.prog = true := by kernel_rfl

open Go.SL in
def EvGood (W : World) (y : Int × Tx × Tx × Hdr) : Prop := (Lit.int .i64 y.1).wf = true ∧ y.2.1.length ≤ maxLen ∧ y.2.2.1.length ≤ maxLen ∧ HdrOk W (Enc.int .i64) (fun z => (Lit.int .i64 z).wf = true) y.2.2.2
theorem dec_event (W : World) : Dec Try.prog W 44 (Enc.pair (Enc.int .i64) (Enc.pair Enc.str (Enc.pair Enc.str Enc.hdr))) (EvGood W) :=
  (dec_struct Try.underlying44 (by kernel_rfl) (.cons (dec_int Try.underlying3) rfl (by kernel_rfl) rfl (.cons (dec_str Try.underlying9) rfl (by kernel_rfl) rfl (.cons (dec_str Try.underlying9) rfl (by kernel_rfl) rfl
    (.one (dec_slice Try.underlying42 (by kernel_rfl) (dec_int Try.underlying3)) rfl (by kernel_rfl)))))).map (fun x => x) (fun _ => rfl) (fun _ h => h)
theorem arr_of {l : List Value} {c : Array Value} (h : l = c.toList) : l.toArray = c := by subst h; simp
theorem okI_of {n : Int} (h : (Lit.int .i64 n).wf = true) : OkI n := by
  simp [Lit.wf, IntKind.min, IntKind.max, IntKind.signed, IntKind.bits] at h
  exact ⟨by omega, by omega⟩
theorem base_fro {W : World} : ∀ f, base W f → Fro f := by
  intro f hf b y hb
  rw [hf] at hb
  cases h : W.heap[b]? with
  | none => simp [h] at hb
  | some o => simp [h] at hb; subst hb; rfl
theorem walk (w : World) (c0 : Array Value) (w0 : ∃ y, (Enc.pair (Enc.int .i64) (Enc.pair Enc.str (Enc.pair Enc.str Enc.hdr))).f y = c0.toList ∧ EvGood w y) (c1 : Array Value) (w1 : ∃ y, (Enc.pair (Enc.int .i64) (Enc.pair Enc.str (Enc.pair Enc.str Enc.hdr))).f y = c1.toList ∧ EvGood w y) :
    Calls Try.prog 4 #[.agg c0, .agg c1] w fun e w' => e = .returned (.bool true) ∧ Below w.heap.size w w' := by
  obtain ⟨⟨k, nm, tx, D, n, m⟩, hc, hk, hn, ht, dc, hl, hm, _, hR, hG⟩ := w0
  obtain ⟨⟨k2, nm2, tx2, D2, n2, m2⟩, hc2, hk2, hn2, ht2, dc2, hl2, hm2, _, hR2, hG2⟩ := w1
  simp only at hl hm hl2 hm2 hR hR2
  have e0 : Value.agg c0 = evV k nm tx D dc.length m := by rw [hl]; exact congrArg Value.agg (arr_of hc).symm
  have e1 : Value.agg c1 = evV k2 nm2 tx2 D2 dc2.length m2 := by rw [hl2]; exact congrArg Value.agg (arr_of hc2).symm
  rw [e0, e1]
  exact (CodecEvent_spec k k2 nm nm2 tx tx2 D D2 dc dc2 m m2 (okI_of hk) (okI_of hk2) (fun n h => okI_of (hG n h)) (fun n h => okI_of (hG2 n h)) (by omega) (by omega) (base w) base_fro hR hR2).calls (fun v Ps h => ⟨h.1, by rw [h.2]; simp⟩)

set_option maxRecDepth 100000 in
theorem lifted (os : Os) (started : os.Started) (H : Type) (enc : TypeId × Value → H) :
    ReturnsInHanded {} Try.checked os 4 .any (Rows.codecEventSpec.pre6 enc Try.prog Try.f4 Rows.codecEventRow.domain false) (Rows.codecEventSpec.post enc Try.prog Try.f4 false true false false) := by
  refine returnsInHanded_of_change (C := Try.checked) own started (by kernel_rfl) Try.func4
    (ChangeSpec.witness6 (enc := enc) (C := Try.checked) false ⟨#[], #[.agg #[.int .i64 0, .string ByteArray.empty, .string ByteArray.empty, .slice none 0 0], .agg #[.int .i64 0, .string ByteArray.empty, .string ByteArray.empty, .slice none 0 0]], []⟩ 8 (by kernel_rfl) (by kernel_rfl) (by kernel_rfl) (by kernel_rfl)) ?_
  intro W base args ds gs before hval0 hW hcnd _
  have hval : ∀ (j : Nat) t v, Try.f4.params[j]? = some t → args[j]? = some v → Value.okWide Try.prog W .any base t v := hval0
  have hW' := hW
  obtain ⟨p, q, hA0, hV, rfl, hfz, hnd⟩ := hW
  have hA : DataW.TrodAll enc Try.prog W 0 (fun _ => true) true Try.f4.params.toList args.toList ds p := hA0
  rw [Try.params4] at hA hval
  obtain ⟨v0, vs0, d0, ds0, p0, q0, hargs, rfl, rfl, h0, r0⟩ := trodAll_cons hA
  obtain ⟨v1, vs1, d1, ds1, p1, q1, rfl, rfl, rfl, h1, r1⟩ := trodAll_cons r0
  obtain ⟨rfl, rfl, rfl⟩ := trodAll_nil r1
  obtain rfl : args = #[v0, v1] := by cases args; simp_all
  obtain ⟨rfl, rfl⟩ := trodVars_none hV
  have k0 := h0
  have lt0 : ∀ x ∈ p0, x.block < W.heap.size := by obtain ⟨m, hm⟩ := k0; exact DataW.trod_lt m _ _ _ hm
  have k1 := h1
  have lt1 : ∀ x ∈ p1, x.block < W.heap.size := by obtain ⟨m, hm⟩ := k1; exact DataW.trod_lt m _ _ _ hm
  obtain ⟨c0, rfl, _⟩ := okWide_struct Try.underlying44 (hval 0 44 v0 rfl rfl)
  have w0 : ∃ y, (Enc.pair (Enc.int .i64) (Enc.pair Enc.str (Enc.pair Enc.str Enc.hdr))).f y = c0.toList ∧ EvGood W y := by
    obtain ⟨fuel, hf⟩ := h0
    exact (dec_event W) _ _ _ _ _ _ _ _ hf
  obtain ⟨c1, rfl, _⟩ := okWide_struct Try.underlying44 (hval 1 44 v1 rfl rfl)
  have w1 : ∃ y, (Enc.pair (Enc.int .i64) (Enc.pair Enc.str (Enc.pair Enc.str Enc.hdr))).f y = c1.toList ∧ EvGood W y := by
    obtain ⟨fuel, hf⟩ := h1
    exact (dec_event W) _ _ _ _ _ _ _ _ hf
  clear hA0 hval0
  refine (walk W c0 w0 c1 w1).mono fun e W' ⟨he, bel⟩ => ?_
  subst he
  exact ⟨_, rfl, _, _, _, [], _, [], hW', trodAll_mk1 (shut_bool Try.underlying4 _), (trodAll_cons_mk (Below.trod laidOut (by kernel_rfl) (of_decide_eq_true (by kernel_rfl)) k0 bel lt0) (trodAll_cons_mk (Below.trod laidOut (by kernel_rfl) (of_decide_eq_true (by kernel_rfl)) k1 bel lt1) trodAll_mk0)), rfl, bel.frame _, fun h => by cases h⟩

theorem over : Rows.codecEventRow.holds Try.pinned (OpenSpec.ofChange Rows.codecEventSpec) :=
  OpenClaim.holds_of_wide 4 Try.f4 rfl rfl rfl rfl rfl rfl rfl ⟨rfl, rfl, rfl, rfl, rfl⟩ rfl rfl rfl rfl rfl (by kernel_rfl) Try.func4 (by kernel_rfl)
    (of_decide_eq_true (by kernel_rfl)) (by unfold Func.isWrapper; first | (rw [if_pos (by decide +kernel)]; kernel_rfl) | (rw [if_neg (by decide +kernel)]; exact ⟨rfl, rfl⟩))
    (fun os started H enc _ => lifted os started H enc)

theorem proved : Rows.CodecEventSaid := over
#print axioms proved
end Go.Proofs.Ythejchmhjcfdiaa.codecEvent

