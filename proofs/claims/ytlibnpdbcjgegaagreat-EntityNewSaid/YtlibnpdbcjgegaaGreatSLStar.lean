/-
  Several assertions as one, with what else is known of them; bits of whole numbers; shifts.
-/
import Derived.Test.YtlibnpdbcjgegaaGreatSLNorm
import Derived.Laws.BitsAllLaws
namespace Go.SL
set_option linter.unusedVariables false
set_option linter.unusedSimpArgs false
def star2 (A B : HProp) : HProp := fun f => ∃ g h, A g ∧ B h ∧ Compat g h ∧ f = fun b => (g b).or (h b)
def starL : List HProp → HProp
  | [] => fun f => f = emp
  | A :: r => star2 A (starL r)
theorem Sat.split {o : Outer} {w : World} {A B : HProp} {r : List HProp} (k : Sat o w (star2 A B :: r)) : Sat o w (A :: B :: r) := by
  obtain ⟨ho, l, h1, h2, h3⟩ := k
  match l, h1 with
  | p :: l, h1 =>
    simp only [List.map_cons, List.cons.injEq] at h1
    obtain ⟨hp1, hp2⟩ := h2 p List.mem_cons_self
    rw [h1.1] at hp1
    obtain ⟨g, h, hg, hh, hc, hf⟩ := hp1
    have eg : ∀ b x, g b = some x → p.2 b = some x := fun b x hb => by rw [hf]; simp [hb]
    have eh : ∀ b x, h b = some x → p.2 b = some x := fun b x hb => by
      rw [hf]
      cases hgb : g b with
      | none => simp [hgb, hb]
      | some y => have := (hc b y x hgb hb).2; subst this; simp [hgb]
    rw [List.pairwise_cons] at h3
    refine ⟨ho, (A, g) :: (B, h) :: l, by simp [h1.2], fun q hq => ?_, ?_⟩
    · simp only [List.mem_cons] at hq
      rcases hq with e | e | hq
      · subst e; exact ⟨hg, fun b x hb => hp2 b x (eg b x hb)⟩
      · subst e; exact ⟨hh, fun b x hb => hp2 b x (eh b x hb)⟩
      · exact h2 q (List.mem_cons_of_mem _ hq)
    · simp only [List.pairwise_cons, List.mem_cons, forall_eq_or_imp]
      exact ⟨⟨hc, fun q hq b x y hx hy => h3.1 q hq b x y (eg b x hx) hy⟩, fun q hq b x y hx hy => h3.1 q hq b x y (eh b x hx) hy, h3.2⟩
theorem Sat.unite {o : Outer} {w : World} {A B : HProp} {r : List HProp} (k : Sat o w (A :: B :: r)) : Sat o w (star2 A B :: r) := by
  refine k.merge fun f g hf hg hc => ⟨_, ⟨f, g, hf, hg, hc, rfl⟩, fun b x hb => ?_⟩
  simp only [Option.or_eq_some_iff] at hb
  rcases hb with hb | ⟨_, hb⟩
  · exact ⟨x, .inl hb, rfl, id⟩
  · exact ⟨x, .inr hb, rfl, id⟩
theorem Sat.unstar {o : Outer} {w : World} : ∀ {Ps r : List HProp}, Sat o w (starL Ps :: r) → Sat o w (Ps ++ r)
  | [], r, k => k.lift (.drop _ _)
  | A :: Ps, r, k => by
    have h1 : Sat o w (A :: starL Ps :: r) := k.split
    have h2 : Sat o w (starL Ps :: A :: r) := h1.lift (.swap _ _ _)
    have h3 := h2.unstar
    exact h3.lift (Find.lift (Find.app (hs := A :: r) .here))
theorem Find.append {Ps r : List HProp} : ∀ (A : HProp), Lift (A :: (Ps ++ r)) (Ps ++ A :: r) := by
  induction Ps with
  | nil => intro A; exact .refl _
  | cons B Ps ih => intro A; exact (Lift.swap _ _ _).trans ((ih A).cons B)
theorem Sat.star {o : Outer} {w : World} : ∀ {Ps r : List HProp}, Sat o w (Ps ++ r) → Sat o w (starL Ps :: r)
  | [], r, k => k.lift (.emp (A := starL []) (show starL [] SL.emp from rfl) _)
  | A :: Ps, r, k => by
    have h2 : Sat o w (Ps ++ A :: r) := k.lift (Find.append A)
    have h3 : Sat o w (starL Ps :: A :: r) := Sat.star h2
    exact (h3.lift (.swap _ _ _)).unite
/-- There is an x of which φ is known, so that all of Ps x hold. -/
def exL {β : Type} (φ : β → Prop) (Ps : β → List HProp) : HProp := fun f => ∃ x, φ x ∧ starL (Ps x) f
theorem Sat.exo {o : Outer} {w : World} {β : Type} {φ : β → Prop} {Ps : β → List HProp} {r : List HProp} (k : Sat o w (exL φ Ps :: r)) : ∃ x : { x // φ x }, Sat o w (Ps x.1 ++ r) := by
  obtain ⟨x, hx⟩ := Sat.opened (B := fun x : { x // φ x } => starL (Ps x.1)) k (fun f hf => by obtain ⟨x, h1, h2⟩ := hf; exact ⟨⟨x, h1⟩, h2⟩)
  exact ⟨x, hx.unstar⟩
theorem Sat.exc {o : Outer} {w : World} {β : Type} {φ : β → Prop} {Ps : β → List HProp} {r : List HProp} (x : β) (hx : φ x) (k : Sat o w (Ps x ++ r)) : Sat o w (exL φ Ps :: r) :=
  k.star.weaken fun f hf => ⟨x, hx, hf⟩
theorem starL_mem {A : HProp} : ∀ {Ps r : List HProp} {f : Hp}, Find Ps A r → starL Ps f → ∃ g, A g ∧ ∀ b x, g b = some x → f b = some x := by
  intro Ps r f h
  induction h generalizing f with
  | here =>
    rintro ⟨g, h, hg, _, _, rfl⟩
    exact ⟨g, hg, fun b x hb => by simp [hb]⟩
  | there _ ih =>
    rintro ⟨g, h, _, hh, hc, rfl⟩
    obtain ⟨u, hu, k⟩ := ih hh
    refine ⟨u, hu, fun b x hb => ?_⟩
    have hb' := k b x hb
    cases hgb : g b with
    | none => simp [hgb, hb']
    | some y => have := (hc b y x hgb hb').2; subst this; simp [hgb]
theorem exL_cell {β : Type} {φ : β → Prop} {Ps : β → List HProp} {b i : Nat} {v : Value} (A : β → HProp) (r : β → List HProp) (hf : ∀ x, Find (Ps x) (A x) (r x)) (hc : ∀ x, φ x → CellAt (A x) b i v) : CellAt (exL φ Ps) b i v := by
  rintro f w ⟨x, hx, hs⟩ hw
  obtain ⟨g, hg, k⟩ := starL_mem (hf x) hs
  exact hc x hx g w hg (fun b y hb => hw b y (k b y hb))
theorem exL_reads {β α : Type} {φ : β → Prop} {Ps : β → List HProp} {En : Enc α} {B : Option Addr} {l : List α} (A : β → HProp) (r : β → List HProp) (hf : ∀ x, Find (Ps x) (A x) (r x)) (hc : ∀ x, φ x → Reads (A x) En B l) : Reads (exL φ Ps) En B l := by
  rintro f w ⟨x, hx, hs⟩ hw
  obtain ⟨g, hg, k⟩ := starL_mem (hf x) hs
  exact hc x hx g w hg (fun b y hb => hw b y (k b y hb))
section
variable {P : Program} {n : Nat} {o : Outer} {sr : List Tmp} {ops : Array Oper} {Q : Post} {St : List HProp} {rest : List Oper} {xs : Env} {hs : List HProp}
variable {d : Option Tmp} {ty : TypeId} {pos : String} {af : Array Edge}
theorem W.exo {β : Type} {φ : β → Prop} {Ps : β → List HProp} {r : List HProp} (hf : Find hs (exL φ Ps) r) (k : ∀ x, φ x → W P n o sr ops Q St rest xs (Ps x ++ r)) : W P n o sr ops Q St rest xs hs :=
  W.ex (fun w hw => (hw.lift hf.lift).exo) (fun x => k x.1 x.2)
theorem C.exo {β : Type} {φ : β → Prop} {Ps : β → List HProp} {r : List HProp} {c : Code} (hf : Find hs (exL φ Ps) r) (k : ∀ x, φ x → C P n o Q c xs (Ps x ++ r)) : C P n o Q c xs hs :=
  C.ex (fun w hw => (hw.lift hf.lift).exo) (fun x => k x.1 x.2)
theorem W.exc {β : Type} {φ : β → Prop} {Ps : β → List HProp} {r : List HProp} (x : β) (hx : φ x) (he : Ent hs (Ps x) r) (k : W P n o sr ops Q St rest xs (exL φ Ps :: r)) : W P n o sr ops Q St rest xs hs :=
  W.turn (fun w hw => Sat.exc x hx (hw.lift he.lift)) k
theorem C.exc {β : Type} {φ : β → Prop} {Ps : β → List HProp} {r : List HProp} {c : Code} (x : β) (hx : φ x) (he : Ent hs (Ps x) r) (k : C P n o Q c xs (exL φ Ps :: r)) : C P n o Q c xs hs :=
  C.turn (fun w hw => Sat.exc x hx (hw.lift he.lift)) k
theorem E.exc {β : Type} {φ : β → Prop} {Ps : β → List HProp} {r : List HProp} {e : Exit} (x : β) (hx : φ x) (he : Ent hs (Ps x) r) (k : E n o Q e xs (exL φ Ps :: r)) : E n o Q e xs hs :=
  E.turn (fun w hw => Sat.exc x hx (hw.lift he.lift)) k
theorem W.fold {β : Type} {φ : β → Prop} {Ps : β → List HProp} {r : List HProp} (X : HProp) (x : β) (hX : X = exL φ Ps) (hx : φ x) (he : Ent hs (Ps x) r) (k : W P n o sr ops Q St rest xs (X :: r)) : W P n o sr ops Q St rest xs hs := by subst hX; exact W.exc x hx he k
theorem C.fold {β : Type} {φ : β → Prop} {Ps : β → List HProp} {r : List HProp} {c : Code} (X : HProp) (x : β) (hX : X = exL φ Ps) (hx : φ x) (he : Ent hs (Ps x) r) (k : C P n o Q c xs (X :: r)) : C P n o Q c xs hs := by subst hX; exact C.exc x hx he k
theorem E.fold {β : Type} {φ : β → Prop} {Ps : β → List HProp} {r : List HProp} {e : Exit} (X : HProp) (x : β) (hX : X = exL φ Ps) (hx : φ x) (he : Ent hs (Ps x) r) (k : E n o Q e xs (X :: r)) : E n o Q e xs hs := by subst hX; exact E.exc x hx he k
theorem W.unfold {β : Type} {φ : β → Prop} {Ps : β → List HProp} {r : List HProp} (X : HProp) (hX : X = exL φ Ps) (hf : Find hs X r) (k : ∀ x, φ x → W P n o sr ops Q St rest xs (Ps x ++ r)) : W P n o sr ops Q St rest xs hs := by subst hX; exact W.exo hf k
theorem C.unfold {β : Type} {φ : β → Prop} {Ps : β → List HProp} {r : List HProp} {c : Code} (X : HProp) (hX : X = exL φ Ps) (hf : Find hs X r) (k : ∀ x, φ x → C P n o Q c xs (Ps x ++ r)) : C P n o Q c xs hs := by subst hX; exact C.exo hf k
theorem quo64 {a b : Int} (h0 : 0 ≤ a) (hb : 0 < b) (h1 : a ≤ 9223372036854775807) : a / b = IntKind.i64.wrap (a.tdiv b) := by
  have h2 : a / b ≤ a := Int.ediv_le_self _ h0
  have h3 : 0 ≤ a / b := Int.ediv_nonneg h0 (Int.le_of_lt hb)
  rw [Int.tdiv_eq_ediv_of_nonneg h0, wrap64 (by omega) (by omega)]
theorem rem64 {a b : Int} (h0 : 0 ≤ a) : a % b = a.tmod b := (Int.tmod_eq_emod_of_nonneg h0).symm
theorem W.st8 {t e p c i : Nat} {x y : Operand} {m : Nat} {A : Option Addr} {l : List UInt8} {u : UInt8} {r : List HProp} [h1 : One P t] (hx : ev xs x = some (.pointer (some ⟨bk A, p, none⟩))) (hy : ev xs y = some (.int .u8 (m : Int)))
    (hf : Find hs (sl Enc.u8 e A c l) r) (hp : p = of A + i * 1) (hu : l[i]? = some u) (hm : m < 256)
    (hI : Keep (freeSt sr ops ⟨none, .store t x y, ty, pos, af, none⟩) St (sl Enc.u8 e A c (l.set i (UInt8.ofNat m)) :: r)) (k : W P n o sr ops Q St rest xs (sl Enc.u8 e A c (l.set i (UInt8.ofNat m)) :: r)) :
    W P n o sr ops Q St (⟨none, .store t x y, ty, pos, af, none⟩ :: rest) xs hs :=
  W.st (j := 0) (UInt8.ofNat m) hx hy rfl hf hp rfl hu rfl (by simp [Nat.mod_eq_of_lt hm]) hI k
theorem W.callr {f : FuncId} {args : List Value} {xargs : Array Operand} {ats : Array TypeId} {Pre Rs : List HProp} {q : Value → List HProp → Prop}
    [hc : Callable P f] (hargs : xargs.toList.map (ev xs) = args.map some) (he : Ent hs Pre Rs) (hd : fits n d = true) (hI : Incl St Rs) (hs0 : Trip P f args Pre q)
    (k : ∀ v Ps, q v Ps → W P n o sr ops Q St rest (put d v xs) (Ps ++ Rs)) :
    W P n o sr ops Q St (⟨d, .call { callee := .value (.func f), args := xargs, argTypes := ats }, ty, pos, af, none⟩ :: rest) xs hs := W.call hs0 hargs he hd hI k
/-- A call behind all loads that must stay. -/
theorem W.callk {f : FuncId} {args : List Value} {xargs : Array Operand} {ats : Array TypeId} {Pre Rs : List HProp} {q : Value → List HProp → Prop}
    [hc : Callable P f] (hargs : xargs.toList.map (ev xs) = args.map some) (he : Ent hs Pre Rs) (hd : fits n d = true) (hI : freeSt sr ops ⟨d, .call { callee := .value (.func f), args := xargs, argTypes := ats }, ty, pos, af, none⟩ = true) (hs0 : Trip P f args Pre q)
    (k : ∀ v Ps, q v Ps → W P n o sr ops Q St rest (put d v xs) (Ps ++ Rs)) :
    W P n o sr ops Q St (⟨d, .call { callee := .value (.func f), args := xargs, argTypes := ats }, ty, pos, af, none⟩ :: rest) xs hs := W.callo hs0 hargs he hd (.inl hI) k
/-- The ways through a statement meet again. -/
theorem C.join {σ : Type} (I : σ → Prop) (X : σ → Env) (H : σ → List HProp) {c1 c2 : Code} (h1 : C P n o (Exit.then (fun a w => ∃ s, I s ∧ Ok n (X s) a ∧ Sat o w (H s)) Q) c1 xs hs)
    (h2 : ∀ s, I s → C P n o Q c2 (X s) (H s)) : C P n o Q (.seq c1 c2) xs hs := by
  refine C.seq ⟨fun a w ha hw => wp_mono (h1 a w ha hw) ?_⟩
  intro e a' w' hq
  cases e with
  | normal => obtain ⟨s, h0, hx, hh⟩ := hq; exact h2 s h0 a' w' hx hh
  | exit id => exact hq
  | goto l => exact hq
  | ret => exact hq
  | panic ch => exact hq
  | outgrown => exact hq
theorem E.join {σ : Type} {I : σ → Prop} {X : σ → Env} {H : σ → List HProp} (s : σ) (hi : I s) (hx : Sub (X s) xs) (hh : Ent hs (H s) []) :
    E n o (Exit.then (fun a w => ∃ s, I s ∧ Ok n (X s) a ∧ Sat o w (H s)) Q) .normal xs hs :=
  ⟨fun _ _ ha hw => ⟨s, hi, ha.sub hx, by have := hw.lift hh.lift; rwa [List.append_nil] at this⟩⟩
/-! what is a plain truth -/
theorem C.cd_t {c : Operand} {x y : Code} {b : Bool} (hc : ev xs c = some (.bool b)) (hb : b = true) (k : C P n o Q x xs hs) : C P n o Q (.cond c x y) xs hs := by subst hb; exact C.cond_true hc k
theorem C.cd_f {c : Operand} {x y : Code} {b : Bool} (hc : ev xs c = some (.bool b)) (hb : b = false) (k : C P n o Q y xs hs) : C P n o Q (.cond c x y) xs hs := by subst hb; exact C.cond_false hc k
theorem W.gy {op : Op} {j : Nat} {want b : Bool} {t : Tmp} (hj : (ops[j]?).bind (·.dst) = some t) (hb : get xs t = some (.bool b)) (hw : b = want)
    (k : W P n o sr ops Q St (⟨d, op, ty, pos, af, none⟩ :: rest) xs hs) : W P n o sr ops Q St (⟨d, op, ty, pos, af, some (j, want)⟩ :: rest) xs hs := by subst hw; exact W.guard_yes hj hb k
theorem W.gn {op : Op} {j : Nat} {want b : Bool} {t : Tmp} (hj : (ops[j]?).bind (·.dst) = some t) (hb : get xs t = some (.bool b)) (hw : b = !want) (hd : fits n d = true)
    (k : W P n o sr ops Q St rest (put d undef xs) hs) : W P n o sr ops Q St (⟨d, op, ty, pos, af, some (j, want)⟩ :: rest) xs hs := W.guard_no hj hb hw hd k
theorem W.pk_t {c x y : Operand} {v : Value} {b : Bool} (hc : ev xs c = some (.bool b)) (hb : b = true) (hx : ev xs x = some v) (hd : fits n d = true) (k : W P n o sr ops Q St rest (put d v xs) hs) :
    W P n o sr ops Q St (⟨d, .pick c x y, ty, pos, af, none⟩ :: rest) xs hs := by subst hb; exact W.pick_true hc hx hd k
theorem W.pk_f {c x y : Operand} {v : Value} {b : Bool} (hc : ev xs c = some (.bool b)) (hb : b = false) (hx : ev xs y = some v) (hd : fits n d = true) (k : W P n o sr ops Q St rest (put d v xs) hs) :
    W P n o sr ops Q St (⟨d, .pick c x y, ty, pos, af, none⟩ :: rest) xs hs := by subst hb; exact W.pick_false hc hx hd k
theorem W.not_t {x : Operand} {t : TypeId} {b : Bool} (hx : ev xs x = some (.bool b)) (hb : b = true) (hd : fits n d = true) (k : W P n o sr ops Q St rest (put d (.bool false) xs) hs) : W P n o sr ops Q St (⟨d, .unOp .not t x, ty, pos, af, none⟩ :: rest) xs hs := by
  subst hb; exact W.not hx hd k
theorem W.not_f {x : Operand} {t : TypeId} {b : Bool} (hx : ev xs x = some (.bool b)) (hb : b = false) (hd : fits n d = true) (k : W P n o sr ops Q St rest (put d (.bool true) xs) hs) : W P n o sr ops Q St (⟨d, .unOp .not t x, ty, pos, af, none⟩ :: rest) xs hs := by
  subst hb; exact W.not hx hd k
theorem W.eqn_s {t t2 : TypeId} {x y : Operand} {a : Addr} [ht : PtrTy P t] (hx : ev xs x = some (.pointer (some a))) (hy : ev xs y = some (.pointer none)) (hd : fits n d = true)
    (k : W P n o sr ops Q St rest (put d (.bool false) xs) hs) : W P n o sr ops Q St (⟨d, .binOp .eql t x y t2, ty, pos, af, none⟩ :: rest) xs hs := W.eq_nil hx hy hd k
theorem W.eqn_n {t t2 : TypeId} {x y : Operand} [ht : PtrTy P t] (hx : ev xs x = some (.pointer none)) (hy : ev xs y = some (.pointer none)) (hd : fits n d = true)
    (k : W P n o sr ops Q St rest (put d (.bool true) xs) hs) : W P n o sr ops Q St (⟨d, .binOp .eql t x y t2, ty, pos, af, none⟩ :: rest) xs hs := W.eq_nil hx hy hd k
theorem W.nen_s {t t2 : TypeId} {x y : Operand} {a : Addr} [ht : PtrTy P t] (hx : ev xs x = some (.pointer (some a))) (hy : ev xs y = some (.pointer none)) (hd : fits n d = true)
    (k : W P n o sr ops Q St rest (put d (.bool true) xs) hs) : W P n o sr ops Q St (⟨d, .binOp .neq t x y t2, ty, pos, af, none⟩ :: rest) xs hs := W.ne_nil hx hy hd k
theorem W.nen_n {t t2 : TypeId} {x y : Operand} [ht : PtrTy P t] (hx : ev xs x = some (.pointer none)) (hy : ev xs y = some (.pointer none)) (hd : fits n d = true)
    (k : W P n o sr ops Q St rest (put d (.bool false) xs) hs) : W P n o sr ops Q St (⟨d, .binOp .neq t x y t2, ty, pos, af, none⟩ :: rest) xs hs := W.ne_nil hx hy hd k
theorem W.lda0 {t i m sz : Nat} {x : Operand} {α : Type} {En : Enc α} {A : Option Addr} {l : List α} {R : HProp} {y : α} [h1 : AggTy P t m] (hx : ev xs x = some (.pointer (some ⟨bk A, of A + i * sz, none⟩))) (hf : FindS hs R En A l) (hsz : En.sz = sz) (hy : l[i]? = some y)
    (hm : En.sz = m) (hns : stbD sr d = false) (hd : fits n d = true) (k : W P n o sr ops Q St rest (put d (.agg (En.f y).toArray) xs) hs) : W P n o sr ops Q St (⟨d, .load t x, ty, pos, af, none⟩ :: rest) xs hs :=
  W.lda (j := 0) (vs := En.f y) hx rfl hf hsz hy (by rw [List.drop_zero, List.take_of_length_le (by rw [En.len, hm]; exact Nat.le_refl _)]) (by rw [En.len, hm]) hns hd k
/-- A whole element of a slice read, which must stay. -/
theorem W.lda0_stay {t i m sz : Nat} {x : Operand} {α : Type} {En : Enc α} {A : Option Addr} {l : List α} {R : HProp} {y : α} [h1 : AggTy P t m] (hx : ev xs x = some (.pointer (some ⟨bk A, of A + i * sz, none⟩))) (hf : FindS hs R En A l) (hsz : En.sz = sz) (hy : l[i]? = some y)
    (hm : En.sz = m) (hns : stbD sr d = true) (hd : fits n d = true) (k : W P n o sr ops Q (R :: St) rest (put d (.agg (En.f y).toArray) xs) hs) : W P n o sr ops Q St (⟨d, .load t x, ty, pos, af, none⟩ :: rest) xs hs := by
  subst hsz
  obtain ⟨⟨r, hfr⟩, hR⟩ := hf.mem
  refine W.stay rfl (by simp [kind]) hns hd hfr (fun a w ha hw => ?_) k
  obtain ⟨f, hf', hh⟩ := hw
  have hc : ∀ (j : Nat) (v : Value), (En.f y)[j]? = some v → w.cell? ⟨bk A, of A + i * En.sz + j, none⟩ = some v := fun j v hj => by
    have := reads_cell hR hy hj f w hf' hh
    rwa [← Nat.add_assoc] at this
  have hl := run_loadVar_agg (P := P) (t := t) (by rw [En.len, hm] : (En.f y).length = m) hc
  show ((Instr.loadAt t (a.eval x)) >>= fun v => pure (Next.value v)).run P w = _
  rw [ha.ev hx, Sem.run_bind]
  simp [Instr.loadAt, Instr.sureAddr, hl]
/-- A whole struct read from its variable, which must stay. -/
theorem W.agg_stay {t b T m : Nat} {x : Operand} {cs : List Value} {r : List HProp} [h1 : AggTy P t m] (hx : ev xs x = some (.pointer (some ⟨b, 0, none⟩))) (hf : Find hs (blk b T cs) r) (hm : cs.length = m)
    (hns : stbD sr d = true) (hd : fits n d = true) (k : W P n o sr ops Q (blk b T cs :: St) rest (put d (.agg cs.toArray) xs) hs) : W P n o sr ops Q St (⟨d, .load t x, ty, pos, af, none⟩ :: rest) xs hs :=
  W.stay rfl (by simp [kind]) hns hd hf (fun a w ha hw => by
    obtain ⟨f, ⟨fr, _, rfl⟩, hf⟩ := hw
    have hb := hf b _ (one_self _ _)
    have hc : ∀ (j : Nat) (v : Value), cs[j]? = some v → w.cell? ⟨b, 0 + j, none⟩ = some v := fun j v hv => by simp [World.cell?, hb, hv]
    have hl := run_loadVar_agg (P := P) (t := t) hm hc
    show ((Instr.loadAt t (a.eval x)) >>= fun v => pure (Next.value v)).run P w = _
    rw [ha.ev hx, Sem.run_bind]
    simp [Instr.loadAt, Instr.sureAddr, hl]) k
theorem W.stb {t e p c i : Nat} {x y : Operand} {b : Bool} {A : Option Addr} {l : List Bool} {u : Bool} {r : List HProp} [h1 : One P t] (hx : ev xs x = some (.pointer (some ⟨bk A, p, none⟩))) (hy : ev xs y = some (.bool b))
    (hf : Find hs (sl Enc.bool e A c l) r) (hp : p = of A + i * 1) (hu : l[i]? = some u)
    (hI : Keep (freeSt sr ops ⟨none, .store t x y, ty, pos, af, none⟩) St (sl Enc.bool e A c (l.set i b) :: r)) (k : W P n o sr ops Q St rest xs (sl Enc.bool e A c (l.set i b) :: r)) :
    W P n o sr ops Q St (⟨none, .store t x y, ty, pos, af, none⟩ :: rest) xs hs :=
  W.st (j := 0) b hx hy rfl hf hp rfl hu rfl rfl hI k
theorem W.ixs {t : TypeId} {x ix : Operand} {s : List UInt8} {i : Int} {kd : IntKind} {c : UInt8} {q : Nat} [ht : StrTy P t] (hx : ev xs x = some (str s)) (hi : ev xs ix = some (.int kd i)) (h0 : 0 ≤ i) (hq : i.toNat = q) (hc : s[q]? = some c) (hd : fits n d = true)
    (k : W P n o sr ops Q St rest (put d (.int .u8 (c.toNat : Int)) xs) hs) : W P n o sr ops Q St (⟨d, .index t x ix, ty, pos, af, none⟩ :: rest) xs hs := by
  subst hq; exact W.index_str hx hi h0 hc hd k
theorem W.ixv {t L e : Nat} {x ix : Operand} {vs : List Value} {i : Int} {kd : IntKind} {v : Value} {q : Nat} [ht : ArrTy P t L e 1] [h1 : One P e] (hx : ev xs x = some (.agg vs.toArray)) (hi : ev xs ix = some (.int kd i)) (h0 : 0 ≤ i) (hL : i < L) (hq : i.toNat = q) (hv : vs[q]? = some v) (hd : fits n d = true)
    (k : W P n o sr ops Q St rest (put d v xs) hs) : W P n o sr ops Q St (⟨d, .index t x ix, ty, pos, af, none⟩ :: rest) xs hs :=
  W.val rfl (by simp [kind]) hd (fun ac w ha => by
    subst hq
    show ((Instr.index t (ac.eval x) (ac.eval ix)) >>= fun v => pure (Next.value v)).run P w = _
    obtain ⟨inf, hi2, hsz⟩ := ht.info
    have hp : (part e vs.toArray (i.toNat * 1)).run P w = .ok v w := by
      have h := h1.agg w
      simp [part, h, hv]
    rw [ha.ev hx, ha.ev hi, Sem.run_bind]
    have hs : (sizeOf e).run P w = .ok 1 w := by simp [sizeOf, typeInfo, hi2, hsz]
    simp [Instr.index, asIntOf, run_underlying ht.und, h0, hL, hs]
    simp only [Nat.mul_one] at hp
    simp [hp]) k
theorem ari8_add {a b z : Int} (h : z = a + b) (h1 : 0 ≤ z) (h2 : z ≤ 255) : ariI .add .u8 a b = some z := by
  subst h; simp only [ariI]; rw [wrapu rfl h1 (by show a + b < 256; omega)]
theorem ari8_sub {a b z : Int} (h : z = a - b) (h1 : 0 ≤ z) (h2 : z ≤ 255) : ariI .sub .u8 a b = some z := by
  subst h; simp only [ariI]; rw [wrapu rfl h1 (by show a - b < 256; omega)]
theorem ariu_add {a b z : Int} (h : z = a + b) (h1 : 0 ≤ z) (h2 : z ≤ 18446744073709551615) : ariI .add .u64 a b = some z := by
  subst h; simp only [ariI]; rw [wrapu rfl h1 (by show a + b < 18446744073709551616; omega)]
theorem ariu_sub {a b z : Int} (h : z = a - b) (h1 : 0 ≤ z) (h2 : z ≤ 18446744073709551615) : ariI .sub .u64 a b = some z := by
  subst h; simp only [ariI]; rw [wrapu rfl h1 (by show a - b < 18446744073709551616; omega)]
/-- Guarded by an operation that was itself left out. -/
theorem W.gu {op : Op} {j : Nat} {want : Bool} {t : Tmp} (hj : (ops[j]?).bind (·.dst) = some t) (hb : get xs t = some undef) (hd : fits n d = true)
    (k : W P n o sr ops Q St rest (put d undef xs) hs) : W P n o sr ops Q St (⟨d, op, ty, pos, af, some (j, want)⟩ :: rest) xs hs := by
  constructor; intro a w ha hw
  have h1 : yielded ops a.tmps j = none := by simp [yielded, hj, ha.get t _ hb, undef]
  rw [wpK, if_neg (by simp [Region.wanted, h1])]
  exact k _ _ (ha.put hd _) hw
/-- string(b) -/
theorem W.bs {src dst e m : Nat} {x : Operand} {A : Option Addr} {c : Nat} {l : List UInt8} {R : HProp} [hb : BytesTy P src e] [ht : StrTy P dst] (hx : ev xs x = some (.slice A m c))
    (hf : FindS hs R Enc.u8 A l) (hm : m = l.length) (hns : stbD sr d = false) (hd : fits n d = true) (k : W P n o sr ops Q St rest (put d (str l) xs) hs) :
    W P n o sr ops Q St (⟨d, .convert src dst x, ty, pos, af, none⟩ :: rest) xs hs := by
  obtain ⟨⟨r, hfr⟩, hR⟩ := hf.mem
  subst hm
  exact W.bytes_str hx hfr hR hns hd k
theorem W.st8z {t e p c i : Nat} {x y : Operand} {z : Int} {A : Option Addr} {l : List UInt8} {u : UInt8} {r : List HProp} [h1 : One P t] (hx : ev xs x = some (.pointer (some ⟨bk A, p, none⟩))) (hy : ev xs y = some (.int .u8 z))
    (hf : Find hs (sl Enc.u8 e A c l) r) (hp : p = of A + i * 1) (hu : l[i]? = some u) (h0 : 0 ≤ z) (hm : z < 256)
    (hI : Keep (freeSt sr ops ⟨none, .store t x y, ty, pos, af, none⟩) St (sl Enc.u8 e A c (l.set i (UInt8.ofNat z.toNat)) :: r)) (k : W P n o sr ops Q St rest xs (sl Enc.u8 e A c (l.set i (UInt8.ofNat z.toNat)) :: r)) :
    W P n o sr ops Q St (⟨none, .store t x y, ty, pos, af, none⟩ :: rest) xs hs := by
  obtain ⟨m, rfl⟩ := Int.eq_ofNat_of_zero_le h0
  exact W.st8 hx hy hf hp hu (by omega) hI (by simpa using k)
theorem W.ss2 {t : TypeId} {x lo hi : Operand} {s : List UInt8} {a' b' : Int} {a b : Nat} {ka kb : IntKind} [ht : StrTy P t] (hx : ev xs x = some (str s)) (hlo : ev xs lo = some (.int ka a')) (hhi : ev xs hi = some (.int kb b')) (h0 : 0 ≤ a') (h1 : a' ≤ b') (h2 : b' ≤ s.length)
    (ha : a'.toNat = a) (hb : b'.toNat = b) (hd : fits n d = true) (k : W P n o sr ops Q St rest (put d (str ((s.drop a).take (b - a))) xs) hs) : W P n o sr ops Q St (⟨d, .slice t x (some lo) (some hi) none, ty, pos, af, none⟩ :: rest) xs hs := by
  subst ha hb; exact W.slice_str hx (.inr ⟨lo, rfl, hlo⟩) (.inr ⟨hi, rfl, hhi⟩) h0 h1 h2 hd k
theorem W.ss1 {t : TypeId} {x lo : Operand} {s : List UInt8} {a' : Int} {a : Nat} {ka : IntKind} [ht : StrTy P t] (hx : ev xs x = some (str s)) (hlo : ev xs lo = some (.int ka a')) (h0 : 0 ≤ a') (h1 : a' ≤ s.length)
    (ha : a'.toNat = a) (hd : fits n d = true) (k : W P n o sr ops Q St rest (put d (str (s.drop a)) xs) hs) : W P n o sr ops Q St (⟨d, .slice t x (some lo) none none, ty, pos, af, none⟩ :: rest) xs hs := by
  subst ha
  refine W.slice_str (kb := .i64) (b := s.length) hx (.inr ⟨lo, rfl, hlo⟩) (.inl ⟨rfl, rfl⟩) h0 h1 (Int.le_refl _) hd ?_
  rw [Int.toNat_natCast, List.take_of_length_le (by rw [List.length_drop]; exact Nat.le_refl _)]; exact k
theorem W.ss0 {t : TypeId} {x hi : Operand} {s : List UInt8} {b' : Int} {b : Nat} {kb : IntKind} [ht : StrTy P t] (hx : ev xs x = some (str s)) (hhi : ev xs hi = some (.int kb b')) (h0 : 0 ≤ b') (h1 : b' ≤ s.length)
    (hb : b'.toNat = b) (hd : fits n d = true) (k : W P n o sr ops Q St rest (put d (str (s.take b)) xs) hs) : W P n o sr ops Q St (⟨d, .slice t x none (some hi) none, ty, pos, af, none⟩ :: rest) xs hs := by
  subst hb
  refine W.slice_str (ka := .i64) (a := 0) hx (.inl ⟨rfl, rfl⟩) (.inr ⟨hi, rfl, hhi⟩) (Int.le_refl _) h0 h1 hd ?_
  exact k
/-- A text of a slice of its own is written. -/
theorem W.sts {t e p c i : Nat} {x y : Operand} {b : List UInt8} {A : Option Addr} {l : List (List UInt8)} {u : List UInt8} {r : List HProp} [h1 : One P t] (hx : ev xs x = some (.pointer (some ⟨bk A, p, none⟩))) (hy : ev xs y = some (str b))
    (hf : Find hs (sl Enc.str e A c l) r) (hp : p = of A + i * 1) (hu : l[i]? = some u)
    (hI : Keep (freeSt sr ops ⟨none, .store t x y, ty, pos, af, none⟩) St (sl Enc.str e A c (l.set i b) :: r)) (k : W P n o sr ops Q St rest xs (sl Enc.str e A c (l.set i b) :: r)) :
    W P n o sr ops Q St (⟨none, .store t x y, ty, pos, af, none⟩ :: rest) xs hs :=
  W.st (j := 0) b hx hy rfl hf hp rfl hu rfl rfl hI k
theorem W.app {α : Type} {En : Enc α} {A A2 : Option Addr} {c c2 m m2 t e sz by_ : Nat} {l l2 : List α} {R2 : HProp} {r : List HProp} {x y : Operand} [ht : SliceTy P t e sz by_] (hx : ev xs x = some (.slice A m c)) (hy : ev xs y = some (.slice A2 m2 c2))
    (hf : Find hs (sl En e A c l) r) (hf2 : FindS hs R2 En A2 l2) (hsz : En.sz = sz) (hm : m = l.length) (hm2 : m2 = l2.length) (hb : (l.length + l2.length) * by_ ≤ 140737488355328) (hmm : l.length + l2.length ≤ 140737488355328) (hd : fits n d = true) (hI : Incl St r)
    (k : ∀ A' c', W P n o sr ops Q St rest (put d (.slice A' (l ++ l2).length c') xs) (sl En e A' c' (l ++ l2) :: r)) :
    W P n o sr ops Q St (⟨d, .call { callee := .builtin .append, args := #[x, y], argTypes := #[t, t] }, ty, pos, af, none⟩ :: rest) xs hs := by
  subst hsz hm hm2
  obtain ⟨⟨r2, hfr⟩, hR⟩ := hf2.mem
  exact W.append hx hf hy hfr hR hb hmm hd hI k
theorem W.app0 {α : Type} {En : Enc α} {A2 : Option Addr} {c2 m2 t e sz by_ : Nat} {l2 : List α} {R2 : HProp} {x y : Operand} [ht : SliceTy P t e sz by_] (hx : ev xs x = some (.slice none 0 0)) (hy : ev xs y = some (.slice A2 m2 c2))
    (hf2 : FindS hs R2 En A2 l2) (hsz : En.sz = sz) (hm2 : m2 = l2.length) (hb : l2.length * by_ ≤ 140737488355328) (hmm : l2.length ≤ 140737488355328) (hd : fits n d = true) (hI : Incl St hs)
    (k : ∀ A' c', W P n o sr ops Q St rest (put d (.slice A' l2.length c') xs) (sl En e A' c' l2 :: hs)) :
    W P n o sr ops Q St (⟨d, .call { callee := .builtin .append, args := #[x, y], argTypes := #[t, t] }, ty, pos, af, none⟩ :: rest) xs hs := by
  subst hsz hm2
  obtain ⟨⟨r2, hfr⟩, hR⟩ := hf2.mem
  exact W.append_nil hx hy hfr hR hb hmm hd hI k
theorem rem64n {a b : Int} (h0 : a ≤ 0) : -(-a % b) = a.tmod b := by
  obtain ⟨u, hu⟩ := Int.eq_ofNat_of_zero_le (by omega : 0 ≤ -a)
  have ha : a = -(u : Int) := by omega
  subst ha
  rw [Int.neg_tmod, Int.neg_neg, Int.tmod_eq_emod_of_nonneg (Int.natCast_nonneg u)]
theorem quo64n {a b : Int} (h0 : a ≤ 0) (hb : 0 < b) (h1 : -9223372036854775808 ≤ a) : -(-a / b) = IntKind.i64.wrap (a.tdiv b) := by
  obtain ⟨u, hu⟩ := Int.eq_ofNat_of_zero_le (by omega : 0 ≤ -a)
  have ha : a = -(u : Int) := by omega
  subst ha
  rw [Int.neg_tdiv, Int.neg_neg, Int.tdiv_eq_ediv_of_nonneg (Int.natCast_nonneg u)]
  have h2 : (u : Int) / b ≤ u := Int.ediv_le_self _ (Int.natCast_nonneg u)
  have h3 : 0 ≤ (u : Int) / b := Int.ediv_nonneg (Int.natCast_nonneg u) (Int.le_of_lt hb)
  rw [wrap64 (by omega) (by omega)]
theorem W.neg {t : TypeId} {x : Operand} {a z : Int} (hx : ev xs x = some (.int .i64 a)) (hz : z = -a) (h1 : -9223372036854775808 ≤ z) (h2 : z ≤ 9223372036854775807) (hd : fits n d = true)
    (k : W P n o sr ops Q St rest (put d (.int .i64 z) xs) hs) : W P n o sr ops Q St (⟨d, .unOp .neg t x, ty, pos, af, none⟩ :: rest) xs hs :=
  W.val rfl (by simp [kind]) hd (fun ac w ha => by
    subst hz
    have h3 : IntKind.i64.wrap (0 - a) = -a := by rw [wrap64 (by omega) (by omega)]; omega
    simp [execOp, Op.unary, ha.ev hx, Op.intArith, h3]
    first | done | (have h4 : IntKind.i64.wrap (-a) = -a := wrap64 h1 h2; simp [h4])) k
theorem wrap8 {a : Int} (h1 : 0 ≤ a) (h2 : a ≤ 255) : IntKind.u8.wrap a = a := wrapu rfl h1 (by show a < 256; omega)
theorem W.sl8 {t e by_ : Nat} {x : Operand} {z : Int} [ht : SliceTy P t e 1 by_] (hx : ev xs x = some (.int .u8 z)) (h0 : 0 ≤ z) (h1 : z ≤ 255) (hd : fits n d = true) (hI : Incl St hs)
    (k : ∀ b, W P n o sr ops Q St rest (put d (.slice (some ⟨b, 0, none⟩) 1 1) xs) (sl Enc.u8 e (some ⟨b, 0, none⟩) 1 [UInt8.ofNat z.toNat] :: hs)) :
    W P n o sr ops Q St (⟨d, .buildSlice t 1 #[(0, x)], ty, pos, af, none⟩ :: rest) xs hs := by
  refine W.slice1 (ht := ht) Enc.u8 (UInt8.ofNat z.toNat) hx ?_ rfl hd hI k
  have : (UInt8.ofNat z.toNat).toNat = z.toNat := by rw [UInt8.toNat_ofNat']; exact Nat.mod_eq_of_lt (by omega)
  show [Value.int .u8 z] = [Value.int .u8 ((UInt8.ofNat z.toNat).toNat : Int)]
  rw [this, Int.toNat_of_nonneg h0]
theorem tok_refl (i : Int) : i.toNat = i.toNat := rfl
def evp (xs : Env) : List (Nat × Operand) → Option (List (Nat × Value))
  | [] => some []
  | (i, x) :: r => match ev xs x, evp xs r with | some v, some l => some ((i, v) :: l) | _, _ => none
theorem evp_map {xs : Env} : ∀ {ps : List (Nat × Operand)} {es : List (Nat × Value)}, evp xs ps = some es → ps.map (fun p => (p.1, ev xs p.2)) = es.map (fun p => (p.1, some p.2))
  | [], es, h => by cases h; rfl
  | (i, x) :: r, es, h => by
    simp only [evp] at h
    split at h
    · rename_i v l hv hl
      cases h
      simp only [List.map_cons, hv, evp_map hl]
    · cases h
theorem W.bld {t : TypeId} {parts : Array (Nat × Operand)} {es : List (Nat × Value)} {z : List Value} {offs : List (Nat × Nat)} {cells : Array Value} [ht : StructTy P t z offs]
    (hp : evp xs parts.toList = some es) (hf : Instr.fill (offs[·]?) z.toArray es = some cells) (hd : fits n d = true)
    (k : W P n o sr ops Q St rest (put d (.agg cells) xs) hs) : W P n o sr ops Q St (⟨d, .build t parts, ty, pos, af, none⟩ :: rest) xs hs :=
  W.build (evp_map hp) hf hd k
/-! bits -/
def bitI : BinOp → IntKind → Int → Int → Option Int
  | .and, k, a, b => some (k.wrap (BitVec.ofInt k.bits a &&& BitVec.ofInt k.bits b).toNat)
  | .or, k, a, b => some (k.wrap (BitVec.ofInt k.bits a ||| BitVec.ofInt k.bits b).toNat)
  | .xor, k, a, b => some (k.wrap (BitVec.ofInt k.bits a ^^^ BitVec.ofInt k.bits b).toNat)
  | _, _, _, _ => none
theorem W.bit {op : BinOp} {t t2 : TypeId} {x y : Operand} {kd : IntKind} {a b z : Int} (hx : ev xs x = some (.int kd a)) (hy : ev xs y = some (.int kd b)) (hc : bitI op kd a b = some z) (hd : fits n d = true)
    (k : W P n o sr ops Q St rest (put d (.int kd z) xs) hs) : W P n o sr ops Q St (⟨d, .binOp op t x y t2, ty, pos, af, none⟩ :: rest) xs hs :=
  W.val rfl kind_cmp hd (fun ac w ha => by
    have hr := run_binOp_int (P := P) op t x y kd a b w (by rintro rfl; cases hc) (by rintro rfl; cases hc)
    show ((do eqGuard op t x y (ac.eval x) (ac.eval y); binOp op t (ac.eval x) (ac.eval y) : Sem Value) >>= fun v => pure (Next.value v)).run P w = _
    rw [ha.ev hx, ha.ev hy, Sem.run_bind, hr]
    cases op <;> simp only [bitI, Option.some.injEq, reduceCtorEq] at hc <;> subst hc <;> rfl) k
theorem toNat_ofInt {m a : Nat} (ha : a < 2 ^ m) : (BitVec.ofInt m (a : Int)).toNat = a := by
  rw [BitVec.ofInt_natCast, BitVec.toNat_ofNat]; exact Nat.mod_eq_of_lt ha
theorem wrap_nat {k : IntKind} (hk : k.signed = false) {a : Nat} (ha : a < 2 ^ k.bits) : k.wrap (a : Int) = (a : Int) := by
  refine wrapu hk (Int.natCast_nonneg a) ?_
  have := Int.ofNat_lt.2 ha
  simpa using this
theorem bit_and {k : IntKind} {a b : Nat} (hk : k.signed = false) (ha : a < 2 ^ k.bits) (hb : b < 2 ^ k.bits) : bitI .and k (a : Int) (b : Int) = some ((a &&& b : Nat) : Int) := by
  simp only [bitI, BitVec.toNat_and, toNat_ofInt ha, toNat_ofInt hb]; rw [wrap_nat hk (Nat.and_lt_two_pow _ hb)]
theorem bit_or {k : IntKind} {a b : Nat} (hk : k.signed = false) (ha : a < 2 ^ k.bits) (hb : b < 2 ^ k.bits) : bitI .or k (a : Int) (b : Int) = some ((a ||| b : Nat) : Int) := by
  simp only [bitI, BitVec.toNat_or, toNat_ofInt ha, toNat_ofInt hb]; rw [wrap_nat hk (Nat.or_lt_two_pow ha hb)]
theorem bit_xor {k : IntKind} {a b : Nat} (hk : k.signed = false) (ha : a < 2 ^ k.bits) (hb : b < 2 ^ k.bits) : bitI .xor k (a : Int) (b : Int) = some ((a ^^^ b : Nat) : Int) := by
  simp only [bitI, BitVec.toNat_xor, toNat_ofInt ha, toNat_ofInt hb]; rw [wrap_nat hk (Nat.xor_lt_two_pow ha hb)]
theorem W.shr {t t2 : TypeId} {x y : Operand} {kd ky : IntKind} {a m : Nat} {a' y' : Int} (hx : ev xs x = some (.int kd a')) (hy : ev xs y = some (.int ky y')) (ha : a' = (a : Int)) (hm : y' = (m : Int)) (hlt : m ≤ kd.bits) (hd : fits n d = true)
    (k : W P n o sr ops Q St rest (put d (.int kd ((a / 2 ^ m : Nat) : Int)) xs) hs) : W P n o sr ops Q St (⟨d, .binOp .shr t x y t2, ty, pos, af, none⟩ :: rest) xs hs :=
  W.val rfl kind_cmp hd (fun ac w hac => by
    subst ha hm
    show ((do eqGuard .shr t x y (ac.eval x) (ac.eval y); binOp .shr t (ac.eval x) (ac.eval y) : Sem Value) >>= fun v => pure (Next.value v)).run P w = _
    rw [hac.ev hx, hac.ev hy, Sem.run_bind]
    have h1 : ¬ ((m : Int) < 0) := by omega
    have h2 : ((a : Int).fdiv (2 ^ m)) = ((a / 2 ^ m : Nat) : Int) := by
      have h3 : ((2 : Int) ^ m) = ((2 ^ m : Nat) : Int) := by simp
      rw [h3, Int.fdiv_eq_ediv_of_nonneg _ (Int.natCast_nonneg _)]; rfl
    simp [eqGuard, binOp, Op.shift, h1, Nat.min_eq_left hlt, h2]) k
theorem W.shl {t t2 : TypeId} {x y : Operand} {kd ky : IntKind} {a m : Nat} {a' y' z : Int} (hx : ev xs x = some (.int kd a')) (hy : ev xs y = some (.int ky y')) (ha : a' = (a : Int)) (hm : y' = (m : Int)) (hlt : m ≤ kd.bits) (hz : z = kd.wrap ((a * 2 ^ m : Nat) : Int)) (hd : fits n d = true)
    (k : W P n o sr ops Q St rest (put d (.int kd z) xs) hs) : W P n o sr ops Q St (⟨d, .binOp .shl t x y t2, ty, pos, af, none⟩ :: rest) xs hs :=
  W.val rfl kind_cmp hd (fun ac w hac => by
    subst ha hm hz
    show ((do eqGuard .shl t x y (ac.eval x) (ac.eval y); binOp .shl t (ac.eval x) (ac.eval y) : Sem Value) >>= fun v => pure (Next.value v)).run P w = _
    rw [hac.ev hx, hac.ev hy, Sem.run_bind]
    have h1 : ¬ ((m : Int) < 0) := by omega
    simp [eqGuard, binOp, Op.shift, h1, Nat.min_eq_left hlt]) k
end
end Go.SL
