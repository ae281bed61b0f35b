/-
  Walks and laws joined: WdInv3 WdKnow2 WdHouseDo EnCheck EnSmall WdNewT.
-/
import Derived.Test.YtflmbhkjhfmeoaaGreatQ21
import Derived.Test.YtflmbhkjhfmeoaaGreatQ09
import Derived.Test.YtflmbhkjhfmeoaaGreatQ23
import Derived.Test.YtflmbhkjhfmeoaaGreatQ19
import Derived.Test.YtflmbhkjhfmeoaaGreatQ26
import Derived.Test.YtflmbhkjhfmeoaaGreatQ30
import Derived.Test.YtflmbhkjhfmeoaaGreatQ04
import Derived.Test.YtflmbhkjhfmeoaaGreatQ10
set_option linter.unusedVariables false
set_option linter.unusedSimpArgs false
namespace Go.Proofs.YtflmbhkjhfmeoaaGreat
section
variable {t : Tab} {s K : Nat} {w : Wld}
theorem much_in {num : Tx → Int × Bool} (hnum : ∀ q, (num q).1 ≤ 1099511627776) {q : Tx} {n : Int} (h : muchN num q = some n) : 1 ≤ n ∧ n ≤ 1099511627776 := by
  unfold muchN at h
  split at h
  · cases h
  · rename_i h1
    simp only [not_or, Option.some.injEq] at h1 h
    subst h
    exact ⟨by omega, hnum q⟩
theorem name_in {c : Nat} {x : Chr} (hx : w.chars[c]? = some x) : x.name ∈ w.chars.map (·.name) := List.mem_map_of_mem (List.mem_of_getElem? hx)
theorem iv_offer (h : Iv t s K w) (num : Tx → Int × Bool) (hnum : ∀ q, (num q).1 ≤ 1099511627776) (name word q : Tx) : Iv t s (K + 1) (offerA num t w name word q).1 := by
  have hm := h.mono (Nat.le_refl s) (Nat.le_succ K)
  unfold offerA
  split
  · exact hm
  · rename_i c hc
    obtain ⟨x, hx, _, hnm⟩ := on_at hc
    split
    · exact hm
    · split
      · exact hm
      · rename_i k hf
        obtain ⟨th, hth, hpl, _⟩ := of_at (findA_mem hf)
        split
        · exact hm
        · rename_i n hn
          have hn1 := much_in hnum hn
          split
          · exact hm
          · rename_i hl
            simp only [getD_of hth]
            have h1 := h.putW hth (by omega) 4 0 []
            have hu : ∀ l ∈ w.lots, l.thing ≠ th.id := fun l hl he => by
              obtain ⟨y, hy, e1, e2⟩ := h.lt.th l hl
              have := uniq h.w0.up hy (List.mem_of_getElem? hth) (e1.trans he)
              rw [this] at e2; omega
            have hks : (putW w k 4 0 []).things[k]? = some { th with place := 4, room := 0, who := [] } := by
              simp only [putW, setT, getD_of hth]
              exact List.getElem?_set_self (List.getElem?_eq_some_iff.1 hth).1
            have hlk : Lk (K + 1) (w.chars.map (·.name)) ⟨w.next, th.id, name, n, 0, [], w.now + 20⟩ :=
              ⟨by simp only; omega, Nat.zero_le _, by rw [← hnm]; exact name_in hx, by have := h.w0.nx; simp only; omega, hn1, by have := h.w0.nw; simp only; omega⟩
            refine ⟨{ h1.w0.mono (Nat.le_refl s) (Nat.le_succ K) with
              nl := by simp only [List.length_append, List.length_cons, List.length_nil]; show w.lots.length + (0 + 1) ≤ 10; omega
              tn := fun y hy => by have := h1.w0.tn y hy; have e : (putW w k 4 0 []).next = w.next := rfl; simp only; omega
              lk := fun y hy => by
                rcases List.mem_append.1 hy with hy | hy
                · exact (h.w0.lk y hy).up (Nat.le_succ K)
                · rw [List.mem_singleton.1 hy]; exact hlk
              nx := by have := h.w0.nx; simp only; omega }, fun l hl => ?_, ?_⟩
            · rcases List.mem_append.1 hl with hl | hl
              · exact h1.lt.th l hl
              · rw [List.mem_singleton.1 hl]
                exact ⟨_, List.mem_of_getElem? hks, rfl, rfl⟩
            · show (List.map (fun l : Lot => l.thing) (w.lots ++ [_])).Nodup
              rw [List.map_append]
              refine List.pairwise_append.2 ⟨h.lt.nd, List.pairwise_singleton _ _, fun a ha b hb => ?_⟩
              obtain ⟨l, hl, rfl⟩ := List.mem_map.1 ha
              rw [List.map_cons, List.map_nil, List.mem_singleton] at hb
              subst hb
              exact hu l hl
theorem iv_bid (h : Iv t s K w) (num : Tx → Int × Bool) (hnum : ∀ q, (num q).1 ≤ 1099511627776) (name q1 q2 : Tx) : Iv t s K (bidA num t w name q1 q2).1 := by
  unfold bidA
  split
  · exact h
  · rename_i c hc
    obtain ⟨x, hx, _, hnm⟩ := on_at hc
    split
    · exact h
    · split
      · exact h
      · rename_i at0 hat
        have hat2 : ∃ y, w.lots[at0]? = some y := by
          split at hat
          · obtain ⟨y, hy, _⟩ := pos_mem (List.mem_of_getLast? hat)
            exact ⟨y, hy⟩
          · cases hat
        obtain ⟨l, hl⟩ := hat2
        have hlk := h.w0.lk l (List.mem_of_getElem? hl)
        simp only [getD_of hl, getD_of hx]
        split
        · exact h
        · split
          · exact h
          · rename_i n hn
            have hn1 := much_in hnum hn
            split
            · exact h
            · rename_i hmb
              have k1 := h.ck hx
              have hb := hlk.bi
              obtain ⟨gold, hgold⟩ : ∃ gold, gold = x.gold + (if l.bidder = name then l.bid else 0) := ⟨_, rfl⟩
              rw [← hgold]
              have hg2 : gold ≤ x.gold + l.bid := by rw [hgold]; split <;> omega
              obtain ⟨back, hback⟩ : ∃ back, back = (if l.bidder = [] ∨ l.bidder = name then none else charI w l.bidder) := ⟨_, rfl⟩
              rw [← hback]
              split
              · exact h
              · rename_i hgo
                have hfin : ∀ w1 : Wld, Iv t s K w1 → w1.lots = w.lots → w1.chars.length = w.chars.length → w1.chars.map (·.name) = w.chars.map (·.name) → Iv t s K (setL (Go.Proofs.YtflmbhkjhfmeoaaGreat.setC w1 c fun y => { y with gold := gold - n }) at0 fun l => { l with bid := n, bidder := name }) := by
                  intro w1 h1 e1 e2 e3
                  obtain ⟨x1, hx1⟩ : ∃ x1, w1.chars[c]? = some x1 := ⟨_, List.getElem?_eq_getElem (by have := (List.getElem?_eq_some_iff.1 hx).1; omega)⟩
                  have k2 := h1.ck hx1
                  have h2 := h1.setC hx1 (fun y => { y with gold := gold - n }) rfl ⟨k2.nm, by simp only; have := k1.go; omega, k2.ba, k2.xp, k2.hp, k2.dn⟩
                  have hl2 : (Go.Proofs.YtflmbhkjhfmeoaaGreat.setC w1 c fun y => { y with gold := gold - n }).lots[at0]? = some l := by show w1.lots[at0]? = some l; rw [e1]; exact hl
                  have hlk2 := h2.w0.lk l (List.mem_of_getElem? hl2)
                  exact ⟨h2.w0.setL hl2 _ ⟨by simp only; omega, by simp only; rw [← hnm]; exact k1.nm, hlk2.se, hlk2.id, hlk2.mi, hlk2.en⟩, h2.lt.setL hl2 _ rfl⟩
                cases back with
                | none =>
                  simp only [Bool.false_eq_true, if_false]
                  exact hfin w h rfl rfl rfl
                | some d =>
                  obtain ⟨y, hy⟩ : ∃ y, w.chars[d]? = some y := by
                    split at hback
                    · cases hback
                    · obtain ⟨y, hy, _⟩ := find_get hback.symm
                      exact ⟨y, hy⟩
                  simp only [getD_of hy]
                  unfold maxGold
                  split
                  · exact h
                  · rename_i hfull
                    have k3 := h.ck hy
                    simp only [decide_eq_true_eq] at hfull
                    have h1 := h.setC hy (fun y => { y with gold := y.gold + l.bid }) rfl ⟨k3.nm, by simp only; have := k3.go; omega, k3.ba, k3.xp, k3.hp, k3.dn⟩
                    refine hfin _ h1 rfl (by simp only [Go.Proofs.YtflmbhkjhfmeoaaGreat.setC, List.length_set]) ?_
                    simp only [Go.Proofs.YtflmbhkjhfmeoaaGreat.setC, getD_of hy]
                    exact map_set_same _ hy rfl
theorem iv_off (h : Iv t s K w) {c : Nat} {x : Chr} (hx : w.chars[c]? = some x) (text : Tx) : Iv t s K (offA w c text).1 := by
  have k := h.ck hx
  exact h.setC hx (fun x => { x with on := false, foe := 0 }) rfl ⟨k.nm, k.go, k.ba, k.xp, k.hp, k.dn⟩
end
end Go.Proofs.YtflmbhkjhfmeoaaGreat
namespace Go.Proofs.YtflmbhkjhfmeoaaGreat
open Go.SL
theorem setI_eq {w : Wld} {c : Nat} {x : Till} (hx : w.tills[c]? = some x) (f : Till → Till) : setI w c f = { w with tills := w.tills.set c (f x) } := by rw [setI, getD_of hx]
theorem shop_get {t : Tab} {w : Wld} {r : Int} {s k : Nat} (h : shopI t w r = some (s, k)) : (∃ y, t.shops[s]? = some y) ∧ ∃ z, w.tills[k]? = some z := by
  unfold shopI at h
  split at h
  · rename_i i k2 hi hk
    simp only [Option.some.injEq, Prod.mk.injEq] at h
    obtain ⟨rfl, rfl⟩ := h
    obtain ⟨y, hy, _⟩ := find_get hi
    obtain ⟨z, hz, _⟩ := find_get hk
    exact ⟨⟨y, hy⟩, ⟨z, hz⟩⟩
  · cases h
end Go.Proofs.YtflmbhkjhfmeoaaGreat
namespace Go.Proofs.YtflmbhkjhfmeoaaGreat
open Go.SL
set_option maxHeartbeats 8000000
set_option maxRecDepth 20000
section
variable (t d e : Nat) (m : Lay) (w : Wld) (mt : Tay) (tab : Tab) (S : List Sy) (u : Int)
theorem houseDo_spec (bw : Bw w) (bt : Bt tab) (lm : Laid m w) (R : HProp) [hr : RT R e mt tab] (name a b : Tx) (words : Nat) (hn : name.length ≤ 10000) (hbl : b.length ≤ 10000) (hwl : words ≤ 100000)
    (hb : ∀ x ∈ w.chars, (0 ≤ x.gold ∧ x.gold ≤ 4611686018427387904) ∧ 0 ≤ x.bank ∧ x.bank ≤ 4611686018427387904) (hhs : ∀ x ∈ w.houses, 0 ≤ x.chest ∧ x.chest ≤ 4611686018427387904) (hpr : ∀ r ∈ tab.rooms, 0 ≤ r.price ∧ r.price ≤ 1099511627776) (hmi : -4611686018427387904 ≤ w.minted ∧ w.minted ≤ 4611686018427387904) (hgl : ∀ h ∈ w.houses, h.guests.length ≤ 10000) (hS : S.length ≤ 200000) :
    Trip Tryz.prog 232 [.pointer (some ⟨t, 0, none⟩), str name, str a, str b, .int .i64 (words : Int)] [ts t d e S u, wl d m w, R] (fun v Ps => ∃ m', v = .tuple #[] ∧ Ps = [ts t d e (S ++ (houseDoA tab w name a b words).2) u, wl d m' (houseDoA tab w name a b words).1, R]) := by
  refine Trip.of (m := 46) Tryz.func232 rfl rfl rfl ?_
  intro o Rs
  simp only [List.cons_append, List.nil_append, enumFrom]
  unfold houseDoA
  have F1 := say_spec t d e S u name [87, 104, 97, 116, 63] (by omega)
  by_cases h1 : a = [98, 117, 121]
  · subst h1
    rw [if_pos rfl]
    have F2 := BuyHouse_spec t d e m w mt tab S u bw bt lm R name hn (fun x hx => (hb x hx).1) hpr hmi hS
    refine go ?_
    refine ⟨?_, by simp⟩ <;> intros
    rename Lay => m2
    exact ret0 ⟨m2, rfl, rfl⟩
  rw [if_neg h1]
  have n1 : ¬ (a == [98, 117, 121]) = true := by simpa using h1
  by_cases h2 : words < 3
  · rw [if_pos h2]
    refine go ?_
    (repeat' (first | exact trivial | apply And.intro | intro _))
    all_goals first
      | (exfalso; first | exact n1 (by assumption) | contradiction | omega)
      | exact ret0 ⟨m, rfl, rfl⟩
  rw [if_neg h2]
  by_cases h3 : a = [103, 117, 101, 115, 116]
  · subst h3
    rw [if_pos rfl]
    have F2 := Guest_spec t d e m w mt tab S u bw bt lm R name b hn hbl hgl hS
    refine go ?_
    refine ⟨?_, by simp⟩ <;> intros
    rename Lay => m2
    exact ret0 ⟨m2, rfl, rfl⟩
  rw [if_neg h3]
  have n3 : ¬ (a == [103, 117, 101, 115, 116]) = true := by simpa using h3
  by_cases h4 : a = [112, 117, 116]
  · subst h4
    rw [if_pos rfl]
    have F2 := Chest_spec t d e m w mt tab S u bw bt lm R name b false hb hhs hS
    refine go ?_
    refine ⟨?_, by simp⟩ <;> intros
    exact ret0 ⟨m, rfl, rfl⟩
  rw [if_neg h4]
  have n4 : ¬ (a == [112, 117, 116]) = true := by simpa using h4
  by_cases h5 : a = [116, 97, 107, 101]
  · subst h5
    rw [if_pos rfl]
    have F2 := Chest_spec t d e m w mt tab S u bw bt lm R name b true hb hhs hS
    refine go ?_
    refine ⟨?_, by simp⟩ <;> intros
    exact ret0 ⟨m, rfl, rfl⟩
  rw [if_neg h5]
  have n5 : ¬ (a == [116, 97, 107, 101]) = true := by simpa using h5
  refine go ?_
  (repeat' (first | exact trivial | apply And.intro | intro _))
  all_goals first
    | (exfalso; first | exact n1 (by assumption) | exact n3 (by assumption) | exact n4 (by assumption) | exact n5 (by assumption) | exact h1 (by assumption) | exact h3 (by assumption) | exact h4 (by assumption) | exact h5 (by assumption) | contradiction | omega)
    | exact ret0 ⟨m, rfl, rfl⟩
end
end Go.Proofs.YtflmbhkjhfmeoaaGreat
namespace Go.Proofs.YtflmbhkjhfmeoaaGreat
open Go.SL
set_option maxHeartbeats 8000000
set_option maxRecDepth 20000
theorem Check_yes (d : Nat) (m : Tay) (t : Tab) (g : Good t) (lt : TLaid m t) (P : HProp) [hp : RT P d m t] : Trip Tryz.prog 127 [.pointer (some ⟨d, 0, none⟩)] [P] (fun v Ps => v = .nilIface ∧ Ps = [P]) := by
  refine Trip.of (m := 15) Tryz.func127 rfl rfl rfl ?_
  intro o Rs
  simp only [List.cons_append, List.nil_append, enumFrom]
  have F1 := right_yes d m t g lt P
  have F2 := named_yes d m t g lt P
  refine go ?_
  simp
end Go.Proofs.YtflmbhkjhfmeoaaGreat
namespace Go.Proofs.YtflmbhkjhfmeoaaGreat
open Go.SL
set_option maxHeartbeats 8000000
set_option maxRecDepth 20000
theorem lev_le (xp : Int) (h1 : xp ≤ 9000000000000000000) : 1 ≤ levelN xp ∧ levelN xp ≤ 90000000000000001 := by
  unfold levelN; split <;> omega
section
variable {P : Program} {n : Nat} {o : Outer} {sr : List Tmp} {ops : Array Oper} {Q : Post} {St : List HProp} {rest : List Oper} {xs : Env} {hs : List HProp}
variable {d : Option Tmp} {ty : TypeId} {pos : String} {af : Array Edge} {α : Type} {En : Enc α} {A : Option Addr} {l : List α} {R : HProp}
theorem W.ldz {t : Nat} {x : Operand} {y : α} {v : Value} [h1 : One P t] (hx : ev xs x = some (.pointer (some ⟨bk A, of A, none⟩))) (hf : FindS hs R En A l) (hy : l[0]? = some y) (hv : (En.f y)[0]? = some v)
    (hns : stbD sr d = false) (hd : fits n d = true) (k : W P n o sr ops Q St rest (put d v xs) hs) : W P n o sr ops Q St (⟨d, .load t x, ty, pos, af, none⟩ :: rest) xs hs :=
  W.ld0 (i := 0) (sz := En.sz) (by rw [Nat.zero_mul]; exact hx) hf rfl hy hv hns hd k
end
theorem LevelP_spec (xp : Int) (h0 : -1000000000000000000 ≤ xp) (h1 : xp ≤ 1000000000000000000) : Trip Tryz.prog 31 [.int .i64 xp] [] (fun v Ps => v = .int .i64 (levelN xp) ∧ Ps = []) := by
  refine Trip.of (m := 7) Tryz.func31 rfl rfl rfl ?_
  intro o Rs
  simp only [List.cons_append, List.nil_append, enumFrom]
  unfold levelN
  by_cases h2 : xp < 0
  · rw [if_pos h2]
    have hm : max xp 0 = 0 := by omega
    refine go ?_
    refine ⟨?_, by simp⟩ <;> intros
    rw [hm]
  · rw [if_neg h2]
    have hm : max xp 0 = xp := by omega
    refine go ?_
    refine ⟨?_, by simp⟩ <;> intros
    rw [hm]
theorem MaxHpP_spec (xp : Int) (h0 : -1000000000000000000 ≤ xp) (h1 : xp ≤ 1000000000000000000) : Trip Tryz.prog 33 [.int .i64 xp] [] (fun v Ps => v = .int .i64 (maxHpN xp) ∧ Ps = []) := by
  refine Trip.of (m := 8) Tryz.func33 rfl rfl rfl ?_
  intro o Rs
  simp only [List.cons_append, List.nil_append, enumFrom]
  have F1 := LevelP_spec xp h0 h1
  have hl := lev_le xp (by omega)
  unfold maxHpN
  generalize levelN xp = l at *
  refine go ?_
  refine ⟨?_, by simp⟩ <;> intros
  exact congrArg (Value.int .i64) (by omega)
theorem StartP_spec (d : Nat) (m : Tay) (t : Tab) (hl : t.rooms.length ≤ 100000) (P : HProp) [hp : RT P d m t] : Trip Tryz.prog 82 [.pointer (some ⟨d, 0, none⟩)] [P] (fun v Ps => v = .int .i64 (startR t) ∧ Ps = [P]) := by
  refine Trip.of (m := 20) Tryz.func82 rfl rfl rfl ?_
  intro o Rs
  simp only [List.cons_append, List.nil_append, enumFrom]
  unfold startR
  cases hr : t.rooms with
  | nil =>
    have hn : t.rooms.length = 0 := by rw [hr]; rfl
    refine go ?_
    simp
  | cons x l =>
    have hn : ¬ t.rooms.length = 0 := by rw [hr]; simp
    have hx : t.rooms[0]? = some x := by rw [hr]; rfl
    have h0 : t.rooms.length = l.length + 1 := by rw [hr]; rfl
    refine go ?_
    refine ⟨?_, by simp⟩ <;> intros
    refine W.ldz (by exact rfl) (.here hp.ro) hx (by exact rfl) rfl rfl ?_
    refine go ?_
    simp
theorem find_zip {α β : Type} (p : α → Bool) : ∀ (l : List α) (r : List β), r.length = l.length → (l.zip r).findIdx? (fun x => p x.1) = l.findIdx? p
  | [], _, _ => by simp
  | a :: l, [], h => by cases h
  | a :: l, b :: r, h => by simp only [List.zip_cons_cons, List.findIdx?_cons, find_zip p l r (by simpa using h)]
theorem CharP_one (x : Chr × PA) (name : Tx) (b : Nat) (R : HProp) : Trip Tryz.prog 97 ([.agg (chrC x.1 x.2).toArray] ++ [.pointer (some ⟨b, 0, none⟩)]) [R, blk b 9 [str name]] (fun v Ps => v = .bool (x.1.name == name) ∧ Ps = [R, blk b 9 [str name]]) := by
  refine Trip.of (m := 8) Tryz.func97 rfl rfl rfl ?_
  intro o Rs
  simp only [List.cons_append, List.nil_append, enumFrom]
  refine go ?_
  simp
theorem CharP_spec (d : Nat) (m : Lay) (w : Wld) (name : Tx) (hl : w.chars.length ≤ 1000000) (lm : Laid m w) (P : HProp) [hp : RW P d m w] : Trip Tryz.prog 38 [.pointer (some ⟨d, 0, none⟩), str name] [P] (fun v Ps => v = .int .i64 (iv (charI w name)) ∧ Ps = [P]) := by
  refine Trip.of (m := 13) Tryz.func38 rfl rfl rfl ?_
  intro o Rs
  simp only [List.cons_append, List.nil_append, enumFrom]
  have zc : w.chars.length = (w.chars.zip m.dn).length := by rw [List.length_zip, lm.1, Nat.min_self]
  refine go ?_
  refine ⟨?_, by simp⟩ <;> intros
  rename_i b
  have F1 := idx_chr (w.chars.zip m.dn) m.chA m.chC (by rw [← zc]; omega) P hp.ch 97 [.pointer (some ⟨b, 0, none⟩)] [P, blk b 9 [str name]] [blk b 9 [str name]] .here (fun x => x.1.name == name) (fun x _ => CharP_one x name b P)
  rw [← zc, find_zip (fun c : Chr => c.name == name) w.chars m.dn lm.1] at F1
  unfold charI
  refine go ?_
  simp
theorem money_yes (n : Int) (h : 0 ≤ n ∧ n ≤ 1099511627776) : Trip Tryz.prog 185 [.int .i64 n] [] (fun v Ps => v = .bool true ∧ Ps = []) := by
  refine Trip.of (m := 9) Tryz.func185 rfl rfl rfl ?_
  intro o Rs
  simp only [List.cons_append, List.nil_append, enumFrom]
  obtain ⟨h1, h2⟩ := h
  refine go ?_
  refine ⟨?_, by simp⟩ <;> intros
  rw [decide_eq_true h2]
theorem room_yes (d : Nat) (m : Tay) (t : Tab) (id : Int) (hl : t.rooms.length ≤ 1000000) (h : ∃ k, roomI t id = some k) (P : HProp) [hp : RT P d m t] : Trip Tryz.prog 135 [.pointer (some ⟨d, 0, none⟩), .int .i64 id] [P] (fun v Ps => v = .bool true ∧ Ps = [P]) := by
  refine Trip.of (m := 14) Tryz.func135 rfl rfl rfl ?_
  intro o Rs
  simp only [List.cons_append, List.nil_append, enumFrom]
  obtain ⟨k, hk⟩ := h
  have F1 := RoomP_spec d m t id hl P
  rw [hk, Option.isSome_some] at F1
  refine go ?_
  simp
end Go.Proofs.YtflmbhkjhfmeoaaGreat
namespace Go.Proofs.YtflmbhkjhfmeoaaGreat
open Go.SL
set_option maxHeartbeats 8000000
set_option maxRecDepth 20000
section
variable (e : Nat) (mt : Tay) (tab : Tab)
theorem New_spec (bt : Bt tab) (lt : TLaid mt tab) (hl : ∀ s ∈ tab.shops, 0 ≤ s.till ∧ s.till ≤ 1099511627776) (R : HProp) [hr : RT R e mt tab] : Trip Tryz.prog 50 [.pointer (some ⟨e, 0, none⟩)] [R] (fun v Ps => ∃ d m, v = .pointer (some ⟨d, 0, none⟩) ∧ Ps = [R, wl d m (newW tab)]) := by
  refine Trip.of (m := 103) Tryz.func50 rfl rfl rfl ?_
  intro o Rs
  simp only [List.cons_append, List.nil_append, enumFrom]
  haveI : Plan 6 [29, 33, 35, 37, 39] [0, 1, 2, 3, 4, 5, 6, 7, 8, 9, 10, 11, 12, 13, 14, 15, 16, 17, 18, 19, 20] := ⟨⟩
  haveI : Plan 11 [65, 69, 73, 77, 81] [0, 1, 2, 3, 4, 5, 6, 7, 8, 9, 10, 11, 12, 13, 14, 15, 16, 17, 18, 19, 20, 21, 22, 23, 24, 25, 26] := ⟨⟩
  haveI : Plan 12 [90, 94, 98, 99] [0, 1, 2, 3, 4, 5, 6, 7, 8, 9, 10, 11, 12, 13, 14, 15] := ⟨⟩
  have b1 := bt.nm
  have b2 := bt.ns
  have zs : tab.shops.length = (tab.shops.zip mt.it).length := by rw [List.length_zip, lt.2, Nat.min_self]
  refine go ?_
  refine ⟨?_, by simp⟩ <;> intros
  rename_i o0
  refine C.turn (fun st hst => nest_nil (E := E64) (e := 3) (nest_nil (E := Enc.str) (e := 9) hst)) ?_
  refine loop (σ := Nat × PA) (fun x => x.1 ≤ tab.mobs.length) (fun x => [(0, .pointer (some ⟨e, 0, none⟩)), (3, .pointer (some ⟨o0, 0, none⟩)), (4, .int .i64 (x.1 : Int))])
    (fun x => blk o0 68 [.int .i64 0, .int .i64 ((x.1 : Int) + 1), .int .i64 0, .slice none 0 0, .slice none 0 0, .slice x.2.1 (newM (tab.mobs.take x.1)).length x.2.2, .slice none 0 0, .slice none 0 0, .slice none 0 0] :: sl Em 113 x.2.1 x.2.2 (newM (tab.mobs.take x.1)) :: R :: nest E64 3 [] :: nest Enc.str 9 [] :: Rs) (fun x => tab.mobs.length - x.1) (0, none, 0) (Nat.zero_le _) ?_
  rintro ⟨k, A, c⟩ hk
  simp only at hk ⊢
  by_cases hk2 : k < tab.mobs.length
  · obtain ⟨x, hx⟩ : ∃ x, tab.mobs[k]? = some x := ⟨_, List.getElem?_eq_getElem hk2⟩
    have hst := newM_step hx
    have hln : (newM (tab.mobs.take k)).length ≤ 100000 := by rw [newM_len, List.length_take]; omega
    generalize newM (tab.mobs.take k) = Lk at *
    refine go ?_
    refine ⟨?_, by simp⟩ <;> intros
    rename_i A' c'
    exact rnd (k + 1, A', c') hk2 (by simp only; omega) (hh := by simp only; rw [hst, show (((k + 1 : Nat)) : Int) = (k : Int) + 1 from rfl]; (exact ent_))
  rw [List.take_of_length_le (by omega)]
  have hk3 : k = tab.mobs.length := by omega
  subst hk3
  have hln : (newM tab.mobs).length = tab.mobs.length := newM_len _
  refine go ?_
  refine ⟨?_, by simp⟩ <;> intros
  refine loop (σ := Nat × PA) (fun x => x.1 ≤ tab.shops.length) (fun x => [(0, .pointer (some ⟨e, 0, none⟩)), (3, .pointer (some ⟨o0, 0, none⟩)), (6, .int .i64 (x.1 : Int))])
    (fun x => blk o0 68 [.int .i64 0, .int .i64 ((tab.mobs.length : Int) + 1), .int .i64 (newG (tab.shops.take x.1)), .slice none 0 0, .slice none 0 0, .slice A (newM tab.mobs).length c, .slice none 0 0, .slice none 0 0, .slice x.2.1 (newI (tab.shops.take x.1)).length x.2.2] :: sl Ei 131 x.2.1 x.2.2 (newI (tab.shops.take x.1)) :: sl Em 113 A c (newM tab.mobs) :: R :: nest E64 3 [] :: nest Enc.str 9 [] :: Rs) (fun x => tab.shops.length - x.1) (0, none, 0) (Nat.zero_le _) ?_
  rintro ⟨j, A2, c2⟩ hj
  simp only at hj ⊢
  by_cases hj2 : j < tab.shops.length
  · obtain ⟨x, hx⟩ : ∃ x, tab.shops[j]? = some x := ⟨_, List.getElem?_eq_getElem hj2⟩
    obtain ⟨⟨A1, c1⟩, hz1, _⟩ := zip_get hx lt.2
    have hst := newI_step hx
    have hsg := newG_step hx
    have hgl := newG_le hl j hj
    have htl := hl x (List.mem_of_getElem? hx)
    have hln2 : (newI (tab.shops.take j)).length ≤ 100000 := by rw [newI_len, List.length_take]; omega
    generalize newI (tab.shops.take j) = Lk at *
    generalize newG (tab.shops.take j) = G at *
    refine go ?_
    refine ⟨?_, by simp⟩ <;> intros
    rename_i A' c'
    exact rnd (j + 1, A', c') hj2 (by simp only; omega) (hh := by simp only; rw [hst, hsg]; (exact ent_))
  rw [List.take_of_length_le (by omega)]
  refine go ?_
  refine ⟨?_, by simp⟩ <;> intros
  refine efoldw o0 ⟨none, 0, none, 0, A, c, none, 0, none, 0, A2, c2, [], []⟩ (newW tab) ⟨rfl, rfl⟩ ?_
  exact ret1 ⟨o0, _, rfl, rfl⟩
end
end Go.Proofs.YtflmbhkjhfmeoaaGreat
