/-
  What a world that comes in as an argument tells.
-/
import Derived.Test.YthejchmhjcfdiaaSLArgs
import Derived.SizedLaws
import Derived.Test.YthejchmhjcfdiaaCdCut
import Derived.Test.YthejchmhjcfdiaaCdWorld
namespace Go.SL
set_option linter.unusedVariables false
open Go.RowKit
/-- Whatever reads as a t, its slices within memory, has the cells of some y, of which Good is known. -/
def DecW (P : Program) (W : World) (t : TypeId) {α : Type} (En : Enc α) (Good : α → Prop) : Prop :=
  ∀ (H : Type) (enc : TypeId × Value → H) (base : Nat) (spare : Nat → Bool) (held : Bool) (fuel : Nat) (cs : List Value) (x : DataW H × List MemPlace), DataW.trod enc P W base spare held fuel t cs = some x → (x.1.weights P t).all (· ≤ reachBytes) = true → ∃ y, En.f y = cs ∧ Good y
theorem weights_mem_all {H : Type} {P : Program} {e : TypeId} : ∀ {ds : List (DataW H)} {d : DataW H}, d ∈ ds → ∀ n ∈ d.weights P e, n ∈ DataW.weightsAll P e ds
  | _ :: ds, d, h, n, hn => by
    rw [DataW.weightsAll]
    rcases List.mem_cons.1 h with rfl | h
    · exact List.mem_append_left _ hn
    · exact List.mem_append_right _ (weights_mem_all h n hn)
section
variable {P : Program} {W : World} {t : TypeId}
theorem Dec.w {α : Type} {E : Enc α} {G : α → Prop} (h : Dec P W t E G) : DecW P W t E G := fun H enc base spare held fuel cs x hx _ => h H enc base spare held fuel cs x hx
theorem decw_slice {e : TypeId} {α : Type} {En : Enc α} {Good : α → Prop} (ht : P.underlying t = some (.slice e)) (hc : P.cellsOf e = En.sz) (hd : DecW P W e En Good) : DecW P W t Enc.hdr (fun h => HdrOk W En Good h ∧ h.2.1 * P.bytesOf e ≤ reachBytes) := by
  intro H enc bs spare held fuel cs x h hwt
  rcases Go.Deep.open_slice ht h with ⟨rfl, _⟩ | ⟨a, len, cap, m, n, D, Pl, rfl, _, hl, hm, hmm, rfl, hx⟩
  · exact ⟨(none, 0, 0), rfl, ⟨[], rfl, Nat.le_refl _, Nat.zero_le _, fun _ _ _ _ => .inl rfl, fun _ h => by cases h⟩, by simp⟩
  · have hlm : len ≤ m := by rw [hmm]; split <;> omega
    have hws : (len + (m - len)) * P.bytesOf e ≤ reachBytes ∧ ∀ i, i < len → ((D i).weights P e).all (· ≤ reachBytes) = true := by
      have hw2 := List.all_eq_true.1 hwt
      simp only [DataW.weights, ht] at hw2
      refine ⟨by simpa using hw2 _ List.mem_cons_self, fun i hi => List.all_eq_true.2 fun n hn => hw2 n (List.mem_cons_of_mem _ (List.mem_append_left _ (weights_mem_all (List.mem_map.2 ⟨i, List.mem_range.2 hi, rfl⟩) n hn)))⟩
    have hbytes : len * P.bytesOf e ≤ reachBytes := Nat.le_trans (Nat.mul_le_mul_right _ (by omega)) hws.1
    have each : ∀ i, i < len → ∃ y, Good y ∧ ∀ j v, (En.f y)[j]? = some v → W.cell? (a.add (i * En.sz + j)) = some v := by
      intro i hi
      obtain ⟨cs', h1, h2⟩ := hx i (by omega)
      obtain ⟨y, rfl, hg⟩ := hd _ _ _ _ _ _ _ _ h2 (hws.2 i hi)
      obtain ⟨_, hlen, hcell⟩ := World.cells?_some h1
      refine ⟨y, hg, fun j v hv => ?_⟩
      have hj := (List.getElem?_eq_some_iff.1 hv).1
      have := hcell j (by rw [hc, ← En.len y]; exact hj)
      rw [hv, hc] at this
      rw [← this]
      congr 1
      unfold Addr.add
      by_cases h1 : i * En.sz = 0
      · by_cases h2 : j = 0
        · simp [h1, h2]
        · simp [h1, h2]
      · by_cases h2 : j = 0
        · simp [h1, h2]
        · rw [if_neg (by omega), if_neg h2, if_neg h1]; simp [Nat.add_assoc]
    have pickL : ∃ l : List α, l.length = len ∧ ∀ i y, l[i]? = some y → Good y ∧ ∀ j v, (En.f y)[j]? = some v → W.cell? (a.add (i * En.sz + j)) = some v := by
      have : ∀ k, k ≤ len → ∃ l : List α, l.length = k ∧ ∀ i y, l[i]? = some y → Good y ∧ ∀ j v, (En.f y)[j]? = some v → W.cell? (a.add (i * En.sz + j)) = some v := by
        intro k
        induction k with
        | zero => intro _; exact ⟨[], rfl, fun i y h => by simp at h⟩
        | succ k ih =>
          intro hk
          obtain ⟨l, h1, h2⟩ := ih (by omega)
          obtain ⟨y, hg, hy⟩ := each k (by omega)
          refine ⟨l ++ [y], by simp [h1], fun i z hz => ?_⟩
          rcases Nat.lt_or_ge i k with hik | hik
          · rw [List.getElem?_append_left (by omega)] at hz; exact h2 i z hz
          · rw [List.getElem?_append_right (by omega), h1] at hz
            have : i - k = 0 := by have := (List.getElem?_eq_some_iff.1 hz).1; simp at this; omega
            rw [this] at hz; simp at hz; subst hz
            have : i = k := by omega
            subst this; exact ⟨hg, hy⟩
      exact this len (Nat.le_refl _)
    obtain ⟨l, hl1, hl2⟩ := pickL
    refine ⟨(some a, len, cap), rfl, ⟨l, hl1, hl, hm, ?_, fun y hy => ?_⟩, hbytes⟩
    · rcases Nat.eq_zero_or_pos len with h0 | h0
      · exact fun _ _ _ _ => .inl (List.length_eq_zero_iff.1 (by omega))
      have hsp : a.spot = none := by
        have hy0 : l[0]? = some l[0] := List.getElem?_eq_getElem (by omega)
        have hp := En.pos
        have hj : (En.f l[0])[0]? = some ((En.f l[0])[0]'(by rw [En.len]; exact hp)) := List.getElem?_eq_getElem _
        have h1 := (hl2 0 l[0] hy0).2 0 _ hj
        have h2 : a.add (0 * En.sz + 0) = a := by simp [Addr.add]
        rw [h2] at h1
        cases hs : a.spot with
        | none => rfl
        | some s => simp only [World.cell?, hs, Option.isSome_some, if_true] at h1; split at h1 <;> cases h1
      refine reads_base (.inr ⟨a.block, a.off, ?_, fun i v hv => ?_⟩)
      · obtain ⟨b, o, s⟩ := a; simp only at hsp; subst hsp; rfl
      · have hi := (List.getElem?_eq_some_iff.1 hv).1
        rw [En.all_length] at hi
        have hp := En.pos
        have hdm : i / En.sz * En.sz + i % En.sz = i := by rw [Nat.mul_comm]; exact Nat.div_add_mod i En.sz
        have hml : i % En.sz < En.sz := Nat.mod_lt _ hp
        have hq : i / En.sz < l.length := (Nat.div_lt_iff_lt_mul hp).2 hi
        have hy : l[i / En.sz]? = some l[i / En.sz] := List.getElem?_eq_getElem hq
        have hz : (En.f l[i / En.sz])[i % En.sz]? = some ((En.f l[i / En.sz])[i % En.sz]'(by rw [En.len]; exact hml)) := List.getElem?_eq_getElem _
        have h1 := En.all_get l _ _ _ _ hy hz
        rw [hdm] at h1
        rw [h1] at hv
        cases hv
        have := (hl2 _ _ hy).2 _ _ hz
        rw [hdm, add_addr a hsp] at this
        exact this
    · obtain ⟨i, hi, rfl⟩ := List.mem_iff_getElem.1 hy
      exact (hl2 i _ (List.getElem?_eq_getElem hi)).1
inductive FldsW (P : Program) (W : World) : List Field → Nat → (α : Type) → Enc α → (α → Prop) → Prop
  | one {f : Field} {off : Nat} {α : Type} {E : Enc α} {G : α → Prop} (hd : DecW P W f.type E G) (ho : f.offset = off) (hc : P.cellsOf f.type = E.sz) : FldsW P W [f] off α E G
  | cons {f : Field} {fs : List Field} {off off' : Nat} {α β : Type} {E : Enc α} {F : Enc β} {G : α → Prop} {G' : β → Prop} (hd : DecW P W f.type E G) (ho : f.offset = off) (hc : P.cellsOf f.type = E.sz) (hn : off + E.sz = off') (k : FldsW P W fs off' β F G') :
    FldsW P W (f :: fs) off (α × β) (Enc.pair E F) (fun p => G p.1 ∧ G' p.2)
theorem FldsW.dec {fs : List Field} {off : Nat} {α : Type} {E : Enc α} {G : α → Prop} (h : FldsW P W fs off α E G) {cs : List Value} :
    (∀ f ∈ fs, ∃ (H : Type) (enc : TypeId × Value → H) (base : Nat) (spare : Nat → Bool) (held : Bool) (fuel : Nat) (x : DataW H × List MemPlace), DataW.trod enc P W base spare held fuel f.type ((cs.drop f.offset).take (P.cellsOf f.type)) = some x ∧ (x.1.weights P f.type).all (· ≤ reachBytes) = true) →
    ∃ y, E.f y = (cs.drop off).take E.sz ∧ G y := by
  induction h with
  | one hd ho hc =>
    intro h
    obtain ⟨H, enc, base, spare, held, fuel, x, hx, hxw⟩ := h _ (List.mem_singleton.2 rfl)
    obtain ⟨y, hy, hg⟩ := hd _ _ _ _ _ _ _ _ hx hxw
    exact ⟨y, by rw [hy, ho, hc], hg⟩
  | cons hd ho hc hn _ ih =>
    intro h
    obtain ⟨H, enc, base, spare, held, fuel, x, hx, hxw⟩ := h _ List.mem_cons_self
    obtain ⟨y, hy, hg⟩ := hd _ _ _ _ _ _ _ _ hx hxw
    obtain ⟨z, hz, hg'⟩ := ih (fun f hf => h f (List.mem_cons_of_mem _ hf))
    refine ⟨(y, z), ?_, hg, hg'⟩
    show _ ++ _ = _
    rw [hy, hz, ho, hc]
    show _ = List.take (_ + _) _
    rw [← hn, List.take_add, List.drop_drop]
theorem decw_struct {fs : Array Field} {α : Type} {E : Enc α} {G : α → Prop} (ht : P.underlying t = some (.struct fs)) (hc : P.cellsOf t = E.sz) (hf : FldsW P W fs.toList 0 α E G) : DecW P W t E G := by
  intro H enc base spare held fuel cs x h hwt
  obtain ⟨xs, n, _, rfl, hl, hxl, hx⟩ := DataW.trod_struct ht h
  obtain ⟨y, hy, hg⟩ := hf.dec (cs := cs) (fun f hf => by
    obtain ⟨i, hi, rfl⟩ := List.mem_iff_getElem.1 hf
    have hi' : i < fs.size := by simpa using hi
    have h1 := hx i fs.toList[i] (by simp [hi'])
    have h2 : xs[i]? = some (xs[i]'(by omega)) := List.getElem?_eq_getElem _
    rw [h2] at h1
    exact ⟨H, enc, base, spare, held, n, _, h1, List.all_eq_true.2 fun q hq => List.all_eq_true.1 hwt q (by
      simp only [DataW.weights, ht]
      exact DataW.weights_mem_each (j := i) (by rw [List.getElem?_map]; simp [hi']) (by rw [List.getElem?_map, h2]; rfl) q hq)⟩)
  refine ⟨y, ?_, hg⟩
  rw [hy, List.drop_zero, List.take_of_length_le (by omega)]
theorem DecW.map {α β : Type} {E : Enc α} {F : Enc β} {G : α → Prop} {G' : β → Prop} (g : α → β) (he : ∀ x, F.f (g x) = E.f x) (hg : ∀ x, G x → G' (g x)) (h : DecW P W t E G) : DecW P W t F G' := by
  intro H enc base spare held fuel cs x hx hw
  obtain ⟨y, hy, hk⟩ := h _ _ _ _ _ _ _ _ hx hw
  exact ⟨g y, by rw [he, hy], hg y hk⟩
end
end Go.SL
namespace Go.Proofs.Ythejchmhjcfdiaa
open Go.SL
set_option linter.unusedVariables false
set_option linter.unusedSimpArgs false
set_option maxHeartbeats 4000000
theorem decw_mapE {P : Program} {W : World} {t : TypeId} {α β : Type} {E : Enc α} {F : Enc β} {G : α → Prop} {G' : β → Prop} (h : DecW P W t E G) (g : ∀ x, G x → ∃ y, F.f y = E.f x ∧ G' y) : DecW P W t F G' := by
  intro H enc base spare held fuel cs x hx hw
  obtain ⟨y, hy, hk⟩ := h _ _ _ _ _ _ _ _ hx hw
  obtain ⟨z, hz, hz'⟩ := g y hk
  exact ⟨z, by rw [hz, hy], hz'⟩
theorem holds_r {g k : Hp} {w : World} (hc : Compat g k) (hw : Holds w (fun b => (g b).or (k b))) : Holds w k := by
  intro b x hx
  cases hg : g b with
  | none => exact hw b x (by simp [hg, hx])
  | some y => rw [(hc b y x hg hx).2.symm]; exact hw b y (by simp [hg])
theorem holds_l {g k : Hp} {w : World} (hw : Holds w (fun b => (g b).or (k b))) : Holds w g := fun b x hx => hw b x (by simp [hx])
theorem reads_r {α : Type} {A B : HProp} {E : Enc α} {a : Option Addr} {l : List α} (h : Reads B E a l) : Reads (star2 A B) E a l := fun f w hf hw => by
  obtain ⟨g, k, hg, hk, hc, rfl⟩ := hf
  exact h k w hk (holds_r hc hw)
theorem cell_l {A B : HProp} {b i : Nat} {v : Value} (h : CellAt A b i v) : CellAt (star2 A B) b i v := fun f w hf hw => by
  obtain ⟨g, k, hg, hk, hc, rfl⟩ := hf
  exact h g w hg (holds_l hw)
theorem arr_of {l : List Value} {c : Array Value} (h : l = c.toList) : l.toArray = c := by subst h; simp
theorem okI_of {n : Int} (h : (Lit.int .i64 n).wf = true) : OkI n := by
  simp [Lit.wf, IntKind.min, IntKind.max, IntKind.signed, IntKind.bits] at h
  exact ⟨by omega, by omega⟩
theorem base_fro {W : World} : ∀ f, base W f → Fro f := by
  intro f hf b y hb
  rw [hf] at hb
  cases h : W.heap[b]? with
  | none => simp [h] at hb
  | some o => simp [h] at hb; subst hb; rfl
structure ChrIn (W : World) (p : Chr × PA) : Prop where
  room : OkI p.1.room
  hp : OkI p.1.hp
  xp : OkI p.1.xp
  gold : OkI p.1.gold
  bank : OkI p.1.bank
  foe : OkI p.1.foe
  done : ∀ n ∈ p.1.done, OkI n
  fits : p.1.done.length * 8 ≤ 140737488355328
  rd : Reads (base W) E64 p.2.1 p.1.done
structure ThgIn (x : Thg) : Prop where
  id : OkI x.id
  proto : OkI x.proto
  place : OkI x.place
  room : OkI x.room
structure MobIn (x : Mob) : Prop where
  id : OkI x.id
  proto : OkI x.proto
  room : OkI x.room
  hp : OkI x.hp
structure HseIn (W : World) (p : Hse × PA) : Prop where
  room : OkI p.1.room
  chest : OkI p.1.chest
  fits : p.1.guests.length * 16 ≤ 140737488355328
  rd : Reads (base W) Enc.str p.2.1 p.1.guests
structure LotIn (x : Lot) : Prop where
  id : OkI x.id
  thing : OkI x.thing
  min : OkI x.min
  bid : OkI x.bid
  ends : OkI x.ends
structure TillIn (x : Till) : Prop where
  room : OkI x.room
  gold : OkI x.gold
section
variable {W : World}
theorem dec_chr : DecW Try.prog W 57 Ec (ChrIn W) :=
  decw_mapE (decw_struct Try.underlying57 (by kernel_rfl) (.cons (Dec.w (dec_str Try.underlying9)) rfl (by kernel_rfl) rfl (.cons (Dec.w (dec_str Try.underlying9)) rfl (by kernel_rfl) rfl (.cons (Dec.w (dec_bool Try.underlying4)) rfl (by kernel_rfl) rfl (.cons (Dec.w (dec_int Try.underlying3)) rfl (by kernel_rfl) rfl (.cons (Dec.w (dec_int Try.underlying2)) rfl (by kernel_rfl) rfl (.cons (Dec.w (dec_int Try.underlying2)) rfl (by kernel_rfl) rfl (.cons (Dec.w (dec_int Try.underlying2)) rfl (by kernel_rfl) rfl (.cons (Dec.w (dec_int Try.underlying2)) rfl (by kernel_rfl) rfl (.cons (Dec.w (dec_int Try.underlying2)) rfl (by kernel_rfl) rfl (.one (decw_slice Try.underlying42 (by kernel_rfl) (Dec.w (dec_int Try.underlying3))) rfl (by kernel_rfl)))))))))))) (by
    rintro ⟨nm, hs, on, rm, hp, xp, gd, bk, fo, D, n, c⟩ ⟨_, _, _, h1, h2, h3, h4, h5, h6, ⟨dc, hl, _, _, hR, hG⟩, hb⟩
    simp only at hl hR hb
    subst hl
    exact ⟨(⟨nm, hs, on, rm, hp, xp, gd, bk, fo, dc⟩, (D, c)), rfl, okI_of h1, okI_of h2, okI_of h3, okI_of h4, okI_of h5, okI_of h6, fun n h => okI_of (hG n h), Nat.le_trans (Nat.le_of_eq (congrArg (dc.length * ·) (show 8 = Try.prog.bytesOf 3 by kernel_rfl))) (Nat.le_trans hb (by decide)), hR⟩)
theorem dec_thg : DecW Try.prog W 60 Et ThgIn :=
  decw_mapE (decw_struct Try.underlying60 (by kernel_rfl) (.cons (Dec.w (dec_int Try.underlying2)) rfl (by kernel_rfl) rfl (.cons (Dec.w (dec_int Try.underlying3)) rfl (by kernel_rfl) rfl (.cons (Dec.w (dec_int Try.underlying3)) rfl (by kernel_rfl) rfl (.cons (Dec.w (dec_int Try.underlying3)) rfl (by kernel_rfl) rfl (.one (Dec.w (dec_str Try.underlying9)) rfl (by kernel_rfl))))))) (by
    rintro ⟨a, b, c, d, s⟩ ⟨h1, h2, h3, h4, _⟩
    exact ⟨⟨a, b, c, d, s⟩, rfl, okI_of h1, okI_of h2, okI_of h3, okI_of h4⟩)
theorem dec_mob : DecW Try.prog W 51 Em MobIn :=
  decw_mapE (decw_struct Try.underlying51 (by kernel_rfl) (.cons (Dec.w (dec_int Try.underlying2)) rfl (by kernel_rfl) rfl (.cons (Dec.w (dec_int Try.underlying3)) rfl (by kernel_rfl) rfl (.cons (Dec.w (dec_int Try.underlying3)) rfl (by kernel_rfl) rfl (.one (Dec.w (dec_int Try.underlying2)) rfl (by kernel_rfl)))))) (by
    rintro ⟨a, b, c, d⟩ ⟨h1, h2, h3, h4⟩
    exact ⟨⟨a, b, c, d⟩, rfl, okI_of h1, okI_of h2, okI_of h3, okI_of h4⟩)
theorem dec_hse : DecW Try.prog W 64 Eh (HseIn W) :=
  decw_mapE (decw_struct Try.underlying64 (by kernel_rfl) (.cons (Dec.w (dec_int Try.underlying3)) rfl (by kernel_rfl) rfl (.cons (Dec.w (dec_str Try.underlying9)) rfl (by kernel_rfl) rfl (.cons (decw_slice Try.underlying62 (by kernel_rfl) (Dec.w (dec_str Try.underlying9))) rfl (by kernel_rfl) rfl (.one (Dec.w (dec_int Try.underlying2)) rfl (by kernel_rfl)))))) (by
    rintro ⟨rm, ow, ⟨D, n, c⟩, ch⟩ ⟨h1, _, ⟨⟨gs, hl, _, _, hR, hG⟩, hb⟩, h2⟩
    simp only at hl hR hb
    subst hl
    exact ⟨(⟨rm, ow, gs, ch⟩, (D, c)), rfl, okI_of h1, okI_of h2, Nat.le_trans (Nat.le_of_eq (congrArg (gs.length * ·) (show 16 = Try.prog.bytesOf 9 by kernel_rfl))) (Nat.le_trans hb (by decide)), hR⟩)
theorem dec_lot : DecW Try.prog W 66 El LotIn :=
  decw_mapE (decw_struct Try.underlying66 (by kernel_rfl) (.cons (Dec.w (dec_int Try.underlying2)) rfl (by kernel_rfl) rfl (.cons (Dec.w (dec_int Try.underlying2)) rfl (by kernel_rfl) rfl (.cons (Dec.w (dec_str Try.underlying9)) rfl (by kernel_rfl) rfl (.cons (Dec.w (dec_int Try.underlying2)) rfl (by kernel_rfl) rfl (.cons (Dec.w (dec_int Try.underlying2)) rfl (by kernel_rfl) rfl (.cons (Dec.w (dec_str Try.underlying9)) rfl (by kernel_rfl) rfl (.one (Dec.w (dec_int Try.underlying2)) rfl (by kernel_rfl))))))))) (by
    rintro ⟨a, b, s, c, d, t, e⟩ ⟨h1, h2, _, h3, h4, _, h5⟩
    exact ⟨⟨a, b, s, c, d, t, e⟩, rfl, okI_of h1, okI_of h2, okI_of h3, okI_of h4, okI_of h5⟩)
theorem dec_till : DecW Try.prog W 74 Ei TillIn :=
  decw_mapE (decw_struct Try.underlying74 (by kernel_rfl) (.cons (Dec.w (dec_int Try.underlying3)) rfl (by kernel_rfl) rfl (.one (Dec.w (dec_int Try.underlying2)) rfl (by kernel_rfl)))) (by
    rintro ⟨a, b⟩ ⟨h1, h2⟩
    exact ⟨⟨a, b⟩, rfl, okI_of h1, okI_of h2⟩)
/-- What is known of a world that came in. -/
structure WldIn (W : World) (w : Wld) (m : Lay) : Prop where
  now : OkI w.now
  next : OkI w.next
  minted : OkI w.minted
  laid : Laid m w
  fits : Fits w
  ch : Reads (base W) Ec m.chA (w.chars.zip m.dn)
  th : Reads (base W) Et m.thA w.things
  mo : Reads (base W) Em m.moA w.mobs
  ho : Reads (base W) Eh m.hoA (w.houses.zip m.gs)
  lo : Reads (base W) El m.loA w.lots
  ti : Reads (base W) Ei m.tiA w.tills
  chs : ∀ p ∈ w.chars.zip m.dn, ChrIn W p
  ths : ∀ x ∈ w.things, ThgIn x
  mos : ∀ x ∈ w.mobs, MobIn x
  hos : ∀ p ∈ w.houses.zip m.gs, HseIn W p
  los : ∀ x ∈ w.lots, LotIn x
  tis : ∀ x ∈ w.tills, TillIn x
theorem mem_zip {α β : Type} {l : List α} {m : List β} (h : m.length = l.length) {x : α} (hx : x ∈ l) : ∃ y, (x, y) ∈ l.zip m := by
  obtain ⟨i, hi, rfl⟩ := List.mem_iff_getElem.1 hx
  obtain ⟨y, hy, _⟩ := zip_get (m := m) (List.getElem?_eq_getElem hi) h
  exact ⟨y, List.mem_of_getElem? hy⟩
theorem unzip_zip {α β : Type} (l : List (α × β)) : (l.map (·.1)).zip (l.map (·.2)) = l := by
  induction l with
  | nil => rfl
  | cons x l ih => simp [ih]
theorem WldIn.rw {W : World} {w : Wld} {m : Lay} (h : WldIn W w m) (d : Nat) : RW (star2 (blk d 29 (wldC m w)) (base W)) d m w where
  cell i v hv := cell_l (blk_cellAt hv)
  ch := reads_r h.ch
  th := reads_r h.th
  mo := reads_r h.mo
  ho := reads_r h.ho
  lo := reads_r h.lo
  ti := reads_r h.ti
  dn p hp := reads_r (h.chs p hp).rd
  gs p hp := reads_r (h.hos p hp).rd

theorem WldIn.cut {W : World} {w : Wld} {m : Lay} (h : WldIn W w m) : WldOk (cutW w) where
  now := h.now
  next := h.next
  minted := h.minted
  chars x hx := by
    obtain ⟨c, hc, rfl⟩ := List.mem_map.1 hx
    obtain ⟨p, hp⟩ := mem_zip h.laid.1 (List.mem_of_mem_take hc)
    have k := h.chs _ hp
    exact ⟨by simp only [cutChr, List.length_take]; omega, by simp only [cutChr, List.length_take]; omega, k.room, k.hp, k.xp, k.gold, k.bank, k.foe, fun n hn => k.done n (List.mem_of_mem_take hn), by simp only [cutChr, List.length_take]; omega⟩
  things x hx := by
    obtain ⟨c, hc, rfl⟩ := List.mem_map.1 hx
    have k := h.ths _ (List.mem_of_mem_take hc)
    exact ⟨k.id, k.proto, k.place, k.room, by simp only [cutThg, List.length_take]; omega⟩
  mobs x hx := by
    have k := h.mos _ (List.mem_of_mem_take hx)
    exact ⟨k.id, k.proto, k.room, k.hp⟩
  houses x hx := by
    obtain ⟨c, hc, rfl⟩ := List.mem_map.1 hx
    obtain ⟨p, hp⟩ := mem_zip h.laid.2 (List.mem_of_mem_take hc)
    have k := h.hos _ hp
    refine ⟨k.room, by simp only [cutHse, List.length_take]; omega, fun g hg => ?_, by simp only [cutHse, List.length_map, List.length_take]; omega, k.chest⟩
    obtain ⟨g', _, rfl⟩ := List.mem_map.1 hg
    rw [List.length_take]; omega
  lots x hx := by
    obtain ⟨c, hc, rfl⟩ := List.mem_map.1 hx
    have k := h.los _ (List.mem_of_mem_take hc)
    exact ⟨k.id, k.thing, by simp only [cutLot, List.length_take]; omega, k.min, k.bid, by simp only [cutLot, List.length_take]; omega, k.ends⟩
  tills x hx := by
    have k := h.tis _ (List.mem_of_mem_take hx)
    exact ⟨k.room, k.gold⟩
  nc := by simp only [cutW, List.length_map, List.length_take]; omega
  nt := by simp only [cutW, List.length_map, List.length_take]; omega
  nm := by simp only [cutW, List.length_take]; omega
  nh := by simp only [cutW, List.length_map, List.length_take]; omega
  nl := by simp only [cutW, List.length_map, List.length_take]; omega
  ni := by simp only [cutW, List.length_take]; omega
def WldArg (W : World) (cs : List Value) : Prop := ∃ w m, wldC m w = cs ∧ WldIn W w m
set_option maxRecDepth 10000 in
theorem dec_world {H : Type} {enc : TypeId × Value → H} {base : Nat} {spare : Nat → Bool} {held : Bool} {fuel : Nat} {cs : List Value} {x : DataW H × List MemPlace} (h : DataW.trod enc Try.prog W base spare held fuel 29 cs = some x) (hw : (x.1.weights Try.prog 29).all (· ≤ reachBytes) = true) : WldArg W cs := by
  obtain ⟨⟨n0, n1, n2, ⟨chA, chn, chC⟩, ⟨thA, thn, thC⟩, ⟨moA, mon, moC⟩, ⟨hoA, hon, hoC⟩, ⟨loA, lon, loC⟩, ⟨tiA, tin, tiC⟩⟩, hc, h0, h1, h2, ⟨⟨chl, chh, _, _, chr, chg⟩, chb⟩, ⟨⟨thl, thh, _, _, thr, thg⟩, thb⟩, ⟨⟨mol, moh, _, _, mor, mog⟩, mob⟩, ⟨⟨hol, hoh, _, _, hor, hog⟩, hob⟩, ⟨⟨lol, loh, _, _, lor, log⟩, lob⟩, ⟨⟨til, tih, _, _, tir, tig⟩, tib⟩⟩ := (decw_struct Try.underlying29 (by kernel_rfl) (.cons (Dec.w (dec_int Try.underlying2)) rfl (by kernel_rfl) rfl (.cons (Dec.w (dec_int Try.underlying2)) rfl (by kernel_rfl) rfl (.cons (Dec.w (dec_int Try.underlying2)) rfl (by kernel_rfl) rfl (.cons (decw_slice Try.underlying22 (by kernel_rfl) dec_chr) rfl (by kernel_rfl) rfl (.cons (decw_slice Try.underlying23 (by kernel_rfl) dec_thg) rfl (by kernel_rfl) rfl (.cons (decw_slice Try.underlying24 (by kernel_rfl) dec_mob) rfl (by kernel_rfl) rfl (.cons (decw_slice Try.underlying25 (by kernel_rfl) dec_hse) rfl (by kernel_rfl) rfl (.cons (decw_slice Try.underlying26 (by kernel_rfl) dec_lot) rfl (by kernel_rfl) rfl (.one (decw_slice Try.underlying27 (by kernel_rfl) dec_till) rfl (by kernel_rfl))))))))))) _ _ _ _ _ _ _ _ h hw
  simp only at chh chr chb thh thr thb moh mor mob hoh hor hob loh lor lob tih tir tib
  subst chh thh moh hoh loh tih
  have chf : chl.length * 112 ≤ 140737488355328 := Nat.le_trans (Nat.le_of_eq (congrArg (chl.length * ·) (show 112 = Try.prog.bytesOf 57 by kernel_rfl))) (Nat.le_trans chb (by decide))
  have thf : thl.length * 48 ≤ 140737488355328 := Nat.le_trans (Nat.le_of_eq (congrArg (thl.length * ·) (show 48 = Try.prog.bytesOf 60 by kernel_rfl))) (Nat.le_trans thb (by decide))
  have mof : mol.length * 32 ≤ 140737488355328 := Nat.le_trans (Nat.le_of_eq (congrArg (mol.length * ·) (show 32 = Try.prog.bytesOf 51 by kernel_rfl))) (Nat.le_trans mob (by decide))
  have hof : hol.length * 56 ≤ 140737488355328 := Nat.le_trans (Nat.le_of_eq (congrArg (hol.length * ·) (show 56 = Try.prog.bytesOf 64 by kernel_rfl))) (Nat.le_trans hob (by decide))
  have lof : lol.length * 72 ≤ 140737488355328 := Nat.le_trans (Nat.le_of_eq (congrArg (lol.length * ·) (show 72 = Try.prog.bytesOf 66 by kernel_rfl))) (Nat.le_trans lob (by decide))
  have tif : til.length * 16 ≤ 140737488355328 := Nat.le_trans (Nat.le_of_eq (congrArg (til.length * ·) (show 16 = Try.prog.bytesOf 74 by kernel_rfl))) (Nat.le_trans tib (by decide))
  refine ⟨⟨n0, n1, n2, chl.map (·.1), thl, mol, hol.map (·.1), lol, til⟩, ⟨chA, chC, thA, thC, moA, moC, hoA, hoC, loA, loC, tiA, tiC, chl.map (·.2), hol.map (·.2)⟩, ?_, ?_⟩
  · rw [← hc]; simp only [wldC, List.length_map]; rfl
  · refine ⟨okI_of h0, okI_of h1, okI_of h2, ⟨by simp, by simp⟩, ⟨by simpa using chf, thf, mof, by simpa using hof, lof, tif, ?_, ?_⟩, by simpa only [unzip_zip] using chr, thr, mor, by simpa only [unzip_zip] using hor, lor, tir, by simpa only [unzip_zip] using chg, thg, mog, by simpa only [unzip_zip] using hog, log, tig⟩
    · intro c hc
      obtain ⟨p, hp, rfl⟩ := List.mem_map.1 hc
      exact (chg p hp).fits
    · intro c hc
      obtain ⟨p, hp, rfl⟩ := List.mem_map.1 hc
      exact (hog p hp).fits
end
end Go.Proofs.Ythejchmhjcfdiaa
