/-
  What worlds are written as: two worlds with the same bytes are the same; how long the bytes are at most.
-/
import Derived.Test.YthejchmhjcfdiaaCdCut
import Derived.Test.YthejchmhjcfdiaaCdRW
import Derived.Test.YthejchmhjcfdiaaCdEqG
namespace Go.Proofs.Ythejchmhjcfdiaa
open Go.SL
set_option linter.unusedVariables false
set_option linter.unusedSimpArgs false
set_option maxHeartbeats 4000000
/-- Nothing is written as a front of what another is written as. -/
def PF {α : Type} (f : α → List UInt8) (G : α → Prop) : Prop := ∀ (x y : α) (r s : List UInt8), G x → G y → f x ++ r = f y ++ s → x = y ∧ r = s
theorem pf_int : PF intE OkI := fun x y r s hx hy h => by
  have := congrArg (fun b => intD b false) h
  simpa only [intD_intE x hx.1 hx.2, intD_intE y hy.1 hy.2, Prod.mk.injEq, and_true] using this
theorem pf_text : PF textE (fun s => s.length ≤ 1000) := fun x y r s hx hy h => by
  have := congrArg (fun b => textD b false) h
  simpa only [textD_textE x _ (Nat.le_trans hx (by decide)), textD_textE y _ (Nat.le_trans hy (by decide)), Prod.mk.injEq, and_true] using this
theorem pf_nums : PF listE (fun l => (∀ n ∈ l, OkI n) ∧ l.length ≤ 1000) := fun x y r s hx hy h => by
  have := congrArg (fun b => listD b false) h
  simpa only [listD_listE x hx.1 (Nat.le_trans hx.2 (by decide)), listD_listE y hy.1 (Nat.le_trans hy.2 (by decide)), Prod.mk.injEq, and_true] using this
theorem pf_len : PF (lenE 8) (fun n => n ≤ 1000) := fun x y r s hx hy h => by
  have := congrArg (fun b => lenD 9 0 0 b false) h
  simpa only [lenD_num x (Nat.lt_of_le_of_lt hx (by decide)), lenD_num y (Nat.lt_of_le_of_lt hy (by decide)), Prod.mk.injEq, and_true] using this
theorem pf_flat {α : Type} {f : α → List UInt8} {G : α → Prop} (h : PF f G) : ∀ (xs ys : List α) (r s : List UInt8), xs.length = ys.length → (∀ x ∈ xs, G x) → (∀ x ∈ ys, G x) → xs.flatMap f ++ r = ys.flatMap f ++ s → xs = ys ∧ r = s
  | [], [], r, s, _, _, _, e => ⟨rfl, e⟩
  | [], _ :: _, _, _, hl, _, _, _ => by simp at hl
  | _ :: _, [], _, _, hl, _, _, _ => by simp at hl
  | x :: xs, y :: ys, r, s, hl, hx, hy, e => by
    simp only [List.flatMap_cons, List.append_assoc] at e
    obtain ⟨h1, e2⟩ := h x y _ _ (hx x List.mem_cons_self) (hy y List.mem_cons_self) e
    obtain ⟨h3, h4⟩ := pf_flat h xs ys r s (by simpa using hl) (fun z hz => hx z (List.mem_cons_of_mem _ hz)) (fun z hz => hy z (List.mem_cons_of_mem _ hz)) e2
    exact ⟨by rw [h1, h3], h4⟩
theorem pf_lst {α : Type} {f : α → List UInt8} {G : α → Prop} (h : PF f G) : PF (lstE f) (fun l => (∀ x ∈ l, G x) ∧ l.length ≤ 1000) := fun x y r s hx hy e => by
  simp only [lstE, List.append_assoc] at e
  obtain ⟨hl, e⟩ := pf_len _ _ _ _ hx.2 hy.2 e
  exact pf_flat h x y r s hl hx.1 hy.1 e
theorem pf_thg : PF thgE ThgOk := fun x y r s hx hy e => by
  simp only [thgE, List.flatMap_cons, List.flatMap_nil, List.append_assoc, List.append_nil, List.nil_append] at e
  obtain ⟨a1, e⟩ := pf_int _ _ _ _ hx.id hy.id e
  obtain ⟨a2, e⟩ := pf_int _ _ _ _ hx.proto hy.proto e
  obtain ⟨a3, e⟩ := pf_int _ _ _ _ hx.place hy.place e
  obtain ⟨a4, e⟩ := pf_int _ _ _ _ hx.room hy.room e
  obtain ⟨a5, e9⟩ := pf_text _ _ _ _ (Nat.le_trans hx.who (by decide)) (Nat.le_trans hy.who (by decide)) e
  cases x; cases y; simp only at a1 a2 a3 a4 a5; subst a1 a2 a3 a4 a5; exact ⟨rfl, e9⟩
theorem pf_mob : PF mobE MobOk := fun x y r s hx hy e => by
  simp only [mobE, List.flatMap_cons, List.flatMap_nil, List.append_assoc, List.append_nil, List.nil_append] at e
  obtain ⟨a1, e⟩ := pf_int _ _ _ _ hx.id hy.id e
  obtain ⟨a2, e⟩ := pf_int _ _ _ _ hx.proto hy.proto e
  obtain ⟨a3, e⟩ := pf_int _ _ _ _ hx.room hy.room e
  obtain ⟨a4, e9⟩ := pf_int _ _ _ _ hx.hp hy.hp e
  cases x; cases y; simp only at a1 a2 a3 a4; subst a1 a2 a3 a4; exact ⟨rfl, e9⟩
theorem pf_till : PF tillE TillOk := fun x y r s hx hy e => by
  simp only [tillE, List.flatMap_cons, List.flatMap_nil, List.append_assoc, List.append_nil, List.nil_append] at e
  obtain ⟨a1, e⟩ := pf_int _ _ _ _ hx.room hy.room e
  obtain ⟨a2, e9⟩ := pf_int _ _ _ _ hx.gold hy.gold e
  cases x; cases y; simp only at a1 a2; subst a1 a2; exact ⟨rfl, e9⟩
theorem pf_lot : PF lotE LotOk := fun x y r s hx hy e => by
  simp only [lotE, List.flatMap_cons, List.flatMap_nil, List.append_assoc, List.append_nil, List.nil_append] at e
  obtain ⟨a1, e⟩ := pf_int _ _ _ _ hx.id hy.id e
  obtain ⟨a2, e⟩ := pf_int _ _ _ _ hx.thing hy.thing e
  obtain ⟨a3, e⟩ := pf_text _ _ _ _ (Nat.le_trans hx.seller (by decide)) (Nat.le_trans hy.seller (by decide)) e
  obtain ⟨a4, e⟩ := pf_int _ _ _ _ hx.min hy.min e
  obtain ⟨a5, e⟩ := pf_int _ _ _ _ hx.bid hy.bid e
  obtain ⟨a6, e⟩ := pf_text _ _ _ _ (Nat.le_trans hx.bidder (by decide)) (Nat.le_trans hy.bidder (by decide)) e
  obtain ⟨a7, e9⟩ := pf_int _ _ _ _ hx.ends hy.ends e
  cases x; cases y; simp only at a1 a2 a3 a4 a5 a6 a7; subst a1 a2 a3 a4 a5 a6 a7; exact ⟨rfl, e9⟩
theorem okI_on (b : Bool) : OkI (if b = true then 1 else 0) := by cases b <;> exact ⟨by decide, by decide⟩
theorem pf_chr : PF charE ChrOk := fun x y r s hx hy e => by
  simp only [charE, List.flatMap_cons, List.flatMap_nil, List.append_assoc, List.append_nil, List.nil_append] at e
  obtain ⟨a1, e⟩ := pf_text _ _ _ _ (Nat.le_trans hx.name (by decide)) (Nat.le_trans hy.name (by decide)) e
  obtain ⟨a2, e⟩ := pf_text _ _ _ _ (Nat.le_trans hx.hash (by decide)) (Nat.le_trans hy.hash (by decide)) e
  obtain ⟨a3, e⟩ := pf_int _ _ _ _ (okI_on _) (okI_on _) e
  obtain ⟨a4, e⟩ := pf_int _ _ _ _ hx.room hy.room e
  obtain ⟨a5, e⟩ := pf_int _ _ _ _ hx.hp hy.hp e
  obtain ⟨a6, e⟩ := pf_int _ _ _ _ hx.xp hy.xp e
  obtain ⟨a7, e⟩ := pf_int _ _ _ _ hx.gold hy.gold e
  obtain ⟨a8, e⟩ := pf_int _ _ _ _ hx.bank hy.bank e
  obtain ⟨a9, e⟩ := pf_int _ _ _ _ hx.foe hy.foe e
  obtain ⟨a10, e9⟩ := pf_nums _ _ _ _ ⟨hx.done, Nat.le_trans hx.many (by decide)⟩ ⟨hy.done, Nat.le_trans hy.many (by decide)⟩ e
  have a3' : x.on = y.on := by cases hx1 : x.on <;> cases hy1 : y.on <;> simp_all
  cases x; cases y; simp only at a1 a2 a3' a4 a5 a6 a7 a8 a9 a10; subst a1 a2 a3' a4 a5 a6 a7 a8 a9 a10; exact ⟨rfl, e9⟩
theorem pf_hse : PF hseE HseOk := fun x y r s hx hy e => by
  simp only [hseE, List.flatMap_cons, List.flatMap_nil, List.append_assoc, List.append_nil, List.nil_append] at e
  obtain ⟨a1, e⟩ := pf_int _ _ _ _ hx.room hy.room e
  obtain ⟨a2, e⟩ := pf_text _ _ _ _ (Nat.le_trans hx.owner (by decide)) (Nat.le_trans hy.owner (by decide)) e
  obtain ⟨a3, e⟩ := pf_len _ _ _ _ (Nat.le_trans hx.many (by decide)) (Nat.le_trans hy.many (by decide)) e
  obtain ⟨a4, e⟩ := pf_flat pf_text _ _ _ _ a3 (fun g hg => Nat.le_trans (hx.guests g hg) (by decide)) (fun g hg => Nat.le_trans (hy.guests g hg) (by decide)) e
  obtain ⟨a5, e9⟩ := pf_int _ _ _ _ hx.chest hy.chest e
  cases x; cases y; simp only at a1 a2 a4 a5; subst a1 a2 a4 a5; exact ⟨rfl, e9⟩
theorem worldE_inj {x y : Wld} (hx : WldOk x) (hy : WldOk y) (e : worldE x = worldE y) : x = y := by
  have e : worldE x ++ [] = worldE y ++ [] := by rw [e]
  simp only [worldE, List.flatMap_cons, List.flatMap_nil, List.append_assoc, List.append_nil, List.nil_append] at e
  obtain ⟨a1, e⟩ := pf_int _ _ _ _ hx.now hy.now e
  obtain ⟨a2, e⟩ := pf_int _ _ _ _ hx.next hy.next e
  obtain ⟨a3, e⟩ := pf_int _ _ _ _ hx.minted hy.minted e
  obtain ⟨a4, e⟩ := pf_lst pf_chr _ _ _ _ ⟨hx.chars, Nat.le_trans hx.nc (by decide)⟩ ⟨hy.chars, Nat.le_trans hy.nc (by decide)⟩ e
  obtain ⟨a5, e⟩ := pf_lst pf_thg _ _ _ _ ⟨hx.things, Nat.le_trans hx.nt (by decide)⟩ ⟨hy.things, Nat.le_trans hy.nt (by decide)⟩ e
  obtain ⟨a6, e⟩ := pf_lst pf_mob _ _ _ _ ⟨hx.mobs, Nat.le_trans hx.nm (by decide)⟩ ⟨hy.mobs, Nat.le_trans hy.nm (by decide)⟩ e
  obtain ⟨a7, e⟩ := pf_lst pf_hse _ _ _ _ ⟨hx.houses, Nat.le_trans hx.nh (by decide)⟩ ⟨hy.houses, Nat.le_trans hy.nh (by decide)⟩ e
  obtain ⟨a8, e⟩ := pf_lst pf_lot _ _ _ _ ⟨hx.lots, Nat.le_trans hx.nl (by decide)⟩ ⟨hy.lots, Nat.le_trans hy.nl (by decide)⟩ e
  have e : lstE tillE x.tills ++ [] = lstE tillE y.tills ++ [] := by rw [e]
  obtain ⟨a9, _⟩ := pf_lst pf_till _ _ _ _ ⟨hx.tills, Nat.le_trans hx.ni (by decide)⟩ ⟨hy.tills, Nat.le_trans hy.ni (by decide)⟩ e
  exact (wld_ext x y).2 ⟨a1, a2, a3, a4, a5, a6, a7, a8, a9⟩
/-! how long -/
theorem len1 {n : Nat} (h : n < 128) : (lenE 8 n).length = 1 := by rw [lenE, if_pos h]; rfl
def tChr (c : Chr) : Nat := 64 + c.name.length + c.hash.length + 64 * c.done.length
def tThg (c : Thg) : Nat := 64 + c.who.length
def tHse (c : Hse) : Nat := 64 + c.owner.length + (c.guests.map fun g => 64 + g.length).sum
def tLot (c : Lot) : Nat := 64 + c.seller.length + c.bidder.length
def textsN (w : Wld) : Nat := 64 + (w.chars.map tChr).sum + (w.things.map tThg).sum + (w.houses.map tHse).sum + (w.lots.map tLot).sum + 64 * (w.mobs.length + w.tills.length)
theorem text1 {s : Tx} (h : s.length ≤ 100) : (textE s).length = 1 + s.length := by rw [textE, List.length_append, len1 (by omega)]
theorem flat_sum {α : Type} {f : α → List UInt8} {t : α → Nat} : ∀ (l : List α), (∀ x ∈ l, (f x).length ≤ t x) → (l.flatMap f).length ≤ (l.map t).sum
  | [], _ => Nat.le_refl _
  | x :: l, h => by
    have h1 := h x List.mem_cons_self
    have h2 := flat_sum l (fun y hy => h y (List.mem_cons_of_mem _ hy))
    simp only [List.flatMap_cons, List.length_append, List.map_cons, List.sum_cons]; omega
theorem lst_sum {α : Type} {f : α → List UInt8} {t : α → Nat} (l : List α) (hn : l.length ≤ 20) (h : ∀ x ∈ l, (f x).length ≤ t x) : (lstE f l).length ≤ 1 + (l.map t).sum := by
  have := flat_sum l h
  rw [lstE, List.length_append, len1 (by omega)]; omega
theorem sum_const {α : Type} (c : Nat) : ∀ (l : List α), (l.map fun _ => c).sum = c * l.length
  | [] => rfl
  | x :: l => by have := sum_const c l; simp only [List.map_cons, List.sum_cons, List.length_cons, this, Nat.mul_add]; omega
theorem worldE_le (w : Wld) (h : WldOk w) : (worldE w).length ≤ textsN w := by
  have i1 := intE_len w.now
  have i2 := intE_len w.next
  have i3 := intE_len w.minted
  have h1 := lst_sum (f := charE) (t := tChr) w.chars h.nc (fun c hc => by
    have k := h.chars c hc
    have a1 := text1 k.name
    have a2 := text1 k.hash
    have a3 := ints_le [if c.on then 1 else 0, c.room, c.hp, c.xp, c.gold, c.bank, c.foe]
    have a4 := ints_le c.done
    have a5 := k.many
    have a6 := intE_len (if c.on = true then 1 else 0)
    simp only [charE, listE, List.length_append, a1, a2, len1 (by omega : c.done.length < 128)]
    simp only [List.length_cons, List.length_nil] at a3
    unfold tChr
    have a7 : (intE (if c.on = true then 1 else 0)).length ≤ 1 := by cases c.on <;> decide
    have b1 := intE_len c.room
    have b2 := intE_len c.hp
    have b3 := intE_len c.xp
    have b4 := intE_len c.gold
    have b5 := intE_len c.bank
    have b6 := intE_len c.foe
    simp only [List.flatMap_cons, List.flatMap_nil, List.length_append, List.length_nil]
    omega)
  have h2 := lst_sum (f := thgE) (t := tThg) w.things h.nt (fun c hc => by
    have k := h.things c hc
    have a1 := text1 k.who
    have a3 := ints_le [c.id, c.proto, c.place, c.room]
    simp only [List.length_cons, List.length_nil] at a3
    simp only [thgE, List.length_append, a1]
    unfold tThg
    omega)
  have h3 := lst_sum (f := mobE) (t := fun _ => 64) w.mobs h.nm (fun c hc => by
    have a3 := ints_le [c.id, c.proto, c.room, c.hp]
    simp only [List.length_cons, List.length_nil] at a3
    simp only [mobE]
    omega)
  have h4 := lst_sum (f := hseE) (t := tHse) w.houses h.nh (fun c hc => by
    have k := h.houses c hc
    have a1 := text1 k.owner
    have a3 := intE_len c.room
    have a4 := intE_len c.chest
    have a5 := k.many
    have a6 : 64 + c.owner.length + (c.guests.flatMap textE).length ≤ tHse c := Nat.add_le_add_left (flat_sum (f := textE) (t := fun g => 64 + g.length) c.guests (fun g hg => by have := text1 (k.guests g hg); omega)) _
    simp only [hseE, List.flatMap_cons, List.flatMap_nil, List.append_nil, List.length_append, a1, len1 (by omega : c.guests.length < 128)]
    omega)
  have h5 := lst_sum (f := lotE) (t := tLot) w.lots h.nl (fun c hc => by
    have k := h.lots c hc
    have a1 := text1 k.seller
    have a2 := text1 k.bidder
    have b1 := ints_le [c.id, c.thing]
    have b2 := ints_le [c.min, c.bid]
    have b3 := ints_le [c.ends]
    simp only [List.length_cons, List.length_nil] at b1 b2 b3
    simp only [lotE, List.length_append, a1, a2]
    unfold tLot
    omega)
  have h6 := lst_sum (f := tillE) (t := fun _ => 64) w.tills h.ni (fun c hc => by
    have a3 := ints_le [c.room, c.gold]
    simp only [List.length_cons, List.length_nil] at a3
    simp only [tillE]
    omega)
  have s3 := sum_const 64 w.mobs
  have s6 := sum_const 64 w.tills
  simp only [worldE, List.flatMap_cons, List.flatMap_nil, List.append_nil, List.length_append]
  unfold textsN
  omega
end Go.Proofs.Ythejchmhjcfdiaa
