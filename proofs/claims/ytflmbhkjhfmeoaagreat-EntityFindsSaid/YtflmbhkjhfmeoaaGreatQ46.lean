/-
  Walks and laws joined: WdTurn.
-/
import Derived.Test.YtflmbhkjhfmeoaaGreatQ45
import Derived.Test.YtflmbhkjhfmeoaaGreatQ24
import Derived.Test.YtflmbhkjhfmeoaaGreatQ21
set_option linter.unusedVariables false
set_option linter.unusedSimpArgs false
namespace Go.Proofs.YtflmbhkjhfmeoaaGreat
open Go.SL
set_option maxHeartbeats 8000000
set_option maxRecDepth 20000
def lastP {α : Type} (f : α → Bool) (l : List α) (k : Nat) : Option Nat := (pos f (l.take k)).getLast?
theorem lastP_yes {α : Type} {f : α → Bool} {l : List α} {k : Nat} {x : α} (hx : l[k]? = some x) (hf : f x = true) : lastP f l (k + 1) = some k := by
  unfold lastP; rw [pos_snoc hx, hf]; simp
theorem lastP_no {α : Type} {f : α → Bool} {l : List α} {k : Nat} {x : α} (hx : l[k]? = some x) (hf : f x = false) : lastP f l (k + 1) = lastP f l k := by
  unfold lastP; rw [pos_snoc hx, hf]; simp
theorem lastP_get {α : Type} {f : α → Bool} {l : List α} {q : Nat} (h : (pos f l).getLast? = some q) : ∃ x, l[q]? = some x ∧ f x = true := pos_mem (List.mem_of_getLast? h)
theorem usesOf_rep (w : Wld) (name : Tx) (p : Int) (n : Nat) (used : List Int) : usesOf w name (List.replicate (n + 1) p) used = if spareN w name p used = 0 then .inr p else usesOf w name (List.replicate n p) (used ++ [spareN w name p used]) := by
  rw [List.replicate_succ, usesOf]
section
variable (t d e : Nat) (m : Lay) (w : Wld) (mt : Tay) (tab : Tab) (S : List Sy) (u : Int)
def ltI (a b : Int) : Bool := decide (a < b)
section
variable {P : Program} {n : Nat} {o : Outer} {sr : List Tmp} {ops : Array Oper} {Q : Post} {St : List HProp} {rest : List Oper} {xs : Env} {hs : List HProp}
variable {ty : TypeId} {pos : String} {af : Array Edge}
theorem W.stj {t e p c i : Nat} {x y : Operand} {b u : Int} {A : Option Addr} {l : List Int} {r : List HProp} [h1 : One P t] (hx : ev xs x = some (.pointer (some ⟨bk A, p, none⟩))) (hy : ev xs y = some (.int .i64 b))
    (hf : Find hs (sl E64 e A c l) r) (hp : p = of A + i * 1) (hu : l[i]? = some u)
    (hI : Keep (freeSt sr ops ⟨none, .store t x y, ty, pos, af, none⟩) St (sl E64 e A c (l.set i b) :: r)) (k : W P n o sr ops Q St rest xs (sl E64 e A c (l.set i b) :: r)) :
    W P n o sr ops Q St (⟨none, .store t x y, ty, pos, af, none⟩ :: rest) xs hs :=
  W.st (j := 0) b hx hy rfl hf hp rfl hu rfl rfl hI k
end
theorem Turn_spec (bw : Bw w) (bt : Bt tab) (lm : Laid m w) (R : HProp) [hr : RT R e mt tab] (name num : Tx) (hn : name.length ≤ 10000) (hb : ∀ x ∈ w.chars, 0 ≤ x.gold ∧ x.gold ≤ 1099511627776) (hdn : ∀ c ∈ w.chars, c.done.length ≤ 10000) (hqo : ∀ q ∈ tab.quests, (0 ≤ q.count ∧ q.count ≤ 100) ∧ 0 ≤ q.gold ∧ q.gold ≤ 1099511627776) (hnx : 0 ≤ w.next ∧ w.next ≤ 4611686018427387904) (hmi : -4611686018427387904 ≤ w.minted ∧ w.minted ≤ 4611686018427387904) (hS : S.length ≤ 200000) :
    Trip Tryz.prog 230 [.pointer (some ⟨t, 0, none⟩), str name, str num] [ts t d e S u, wl d m w, R] (fun v Ps => ∃ m', v = .tuple #[] ∧ Ps = [ts t d e (S ++ (turnA numM tab w name num).2) u, wl d m' (turnA numM tab w name num).1, R]) := by
  refine Trip.of (m := 255) Tryz.func230 rfl rfl rfl ?_
  intro o Rs
  simp only [List.cons_append, List.nil_append, enumFrom]
  haveI : Plan 12 [76, 79, 82, 84] [0, 1, 2, 3, 4, 5, 6, 7, 8, 9, 10, 11, 12] := ⟨⟩
  haveI : Plan 25 [142, 146] [0, 1, 2, 3, 4, 5, 6, 7, 8] := ⟨⟩
  haveI : Plan 26 [151, 154, 158, 160, 161] [0, 1, 2, 3, 4, 5, 6, 7, 8, 9, 10, 11, 12, 13, 14, 15, 16] := ⟨⟩
  haveI : Plan 27 [167, 170, 172, 173] [0, 1, 2, 3, 4, 5, 6, 7, 8, 9, 10, 11, 12] := ⟨⟩
  haveI : Plan 29 [182, 184] [0, 1, 2, 3, 4, 5, 6, 7, 8] := ⟨⟩
  haveI : Plans 30 [191, 194, 198, 201] [11, 14, 15] [[0, 1, 2, 3, 4, 5, 6, 7, 8, 9, 10, 12, 13, 11, 14, 15, 16], [0, 1, 2, 3, 4, 5, 6, 7, 8, 9, 10, 12, 13, 14, 11, 15, 16]] := ⟨⟩
  unfold turnA
  have zc : w.chars.length = (w.chars.zip m.dn).length := by rw [List.length_zip, lm.1, Nat.min_self]
  have F1 := on_spec t d e m w S u bw lm name
  rcases hc : onI w name with _ | c
  · rw [hc] at F1
    simp only [iv] at F1 ⊢
    refine goW ?_
    refine ⟨?_, by simp⟩ <;> intros
    exact ret0 ⟨m, rfl, by rw [List.append_nil]⟩
  obtain ⟨x, hx, hon, hnm⟩ := on_get hc
  have hcl := (List.getElem?_eq_some_iff.1 hx).1
  obtain ⟨⟨A0, c0⟩, hz, _⟩ := zip_get hx lm.1
  rw [hc] at F1
  simp only [iv, getD_of hx] at F1 ⊢
  have F2 := RefNumber_spec num
  have hnr := num_range num
  generalize numM num = q0 at *
  obtain ⟨id, ok⟩ := q0
  simp only at F2 hnr ⊢
  have b1 := bt.nq
  refine goW ?_
  refine ⟨?_, by simp⟩ <;> intros
  clear F1 F2
  refine loop (σ := Nat) (fun k => k ≤ tab.quests.length ∧ (ok = false → k = 0)) (fun k => [(0, .pointer (some ⟨t, 0, none⟩)), (1, str name), (6, .int .i64 (c : Int)), (7, .int .i64 id), (8, .bool ok), (9, .int .i64 (iv (lastP (fun q : Qst => q.id == id) tab.quests k))), (10, .int .i64 (k : Int))])
    (fun _ => ts t d e S u :: wl d m w :: R :: Rs) (fun k => tab.quests.length - k) 0 ⟨Nat.zero_le _, fun _ => rfl⟩ ?_
  rintro k ⟨h1, h2⟩
  by_cases hk : k < tab.quests.length ∧ ok = true
  · obtain ⟨hk, hok⟩ := hk
    subst hok
    obtain ⟨q, hq⟩ : ∃ q, tab.quests[k]? = some q := ⟨_, List.getElem?_eq_getElem hk⟩
    by_cases hqi : q.id = id
    · have hst := lastP_yes (f := fun q : Qst => q.id == id) hq (by simpa using hqi)
      replace hst := Bx.mk hst
      subst hqi
      refine goW ?_
      (repeat' (first | exact trivial | apply And.intro | intro _))
      all_goals first
        | (exfalso; first | contradiction | omega)
        | exact rnd (k + 1) ⟨hk, fun h => by cases h⟩ (by omega) (hx := by rw [hst.get]; (repeat (first | exact trivial | refine And.intro rfl ?_ | fail)))
    · have hst := lastP_no (f := fun q : Qst => q.id == id) hq (by simpa using hqi)
      replace hst := Bx.mk hst
      refine goW ?_
      (repeat' (first | exact trivial | apply And.intro | intro _))
      all_goals first
        | (exfalso; first | contradiction | exact hqi (by assumption) | omega)
        | exact rnd (k + 1) ⟨hk, fun h => by cases h⟩ (by omega) (hx := by rw [hst.get]; (repeat (first | exact trivial | refine And.intro rfl ?_ | fail)))
  cases ok with
  | false =>
    have hk0 := h2 rfl
    subst hk0
    have hl0 : lastP (fun q : Qst => q.id == id) tab.quests 0 = none := rfl
    rw [hl0]
    simp only [Bool.false_eq_true, if_false, iv]
    have F3 := say_spec t d e S u name [87, 104, 97, 116, 32, 101, 114, 114, 97, 110, 100, 63] (by omega)
    refine goW ?_
    (repeat' (first | exact trivial | apply And.intro | intro _))
    all_goals exact ret0 ⟨m, rfl, rfl⟩
  | true =>
    have hkl : tab.quests.length ≤ k := by simp at hk; omega
    have hll : lastP (fun q : Qst => q.id == id) tab.quests k = (pos (fun q : Qst => q.id == id) tab.quests).getLast? := by unfold lastP; rw [List.take_of_length_le hkl]
    rw [hll]
    simp only [if_true]
    clear hk h2 hll
    cases hat : (pos (fun q : Qst => q.id == id) tab.quests).getLast? with
    | none =>
      simp only [iv]
      have F3 := say_spec t d e S u name [87, 104, 97, 116, 32, 101, 114, 114, 97, 110, 100, 63] (by omega)
      refine goW ?_
      refine ⟨?_, by simp⟩ <;> intros
      exact ret0 ⟨m, rfl, rfl⟩
    | some at0 =>
      obtain ⟨q, hq, hqi⟩ := lastP_get hat
      have hal := (List.getElem?_eq_some_iff.1 hq).1
      clear hat
      simp only [iv, getD_of hq]
      obtain ⟨⟨q1, q2⟩, q3, q4⟩ := hqo q (List.mem_of_getElem? hq)
      have hxd := hdn x (List.mem_of_getElem? hx)
      have hg := hb x (List.mem_of_getElem? hx)
      clear hqo hdn hb hqi
      have F1 := did_spec q.id x A0 c0 (by omega) (wl d m w) ((wl_rw (d := d) (m := m) (w := w)).dn _ (List.mem_of_getElem? hz))
      cases hdid : x.done.contains q.id with
      | true =>
        rw [hdid] at F1
        simp only [if_true]
        have F3 := say_spec t d e S u name [89, 111, 117, 32, 100, 105, 100, 32, 116, 104, 97, 116, 46] (by omega)
        refine goW ?_
        refine ⟨?_, by simp⟩ <;> intros
        exact ret0 ⟨m, rfl, rfl⟩
      | false =>
        rw [hdid] at F1
        simp only [Bool.false_eq_true, if_false]
        clear hdid
        obtain ⟨N, hN⟩ : ∃ N : Nat, q.count = (N : Int) := ⟨q.count.toNat, by omega⟩
        have hNt : q.count.toNat = N := by omega
        rw [hNt]
        have F2 := kind_spec t d e mt tab S u bt R q.item
        have hkn := kindN_le bt q.item
        have F3 := say_spec t d e S u name (lackT tab q.item) (by omega)
        refine goW ?_
        (repeat' (first | exact trivial | apply And.intro | intro _))
        all_goals first
          | (exfalso; first | contradiction | omega)
          | skip
        rename Nat => b9
        clear F1
        refine loop (σ := List Int × Option Addr × Nat) (fun s => s.1.length ≤ N ∧ usesOf w name (List.replicate N q.item) [] = usesOf w name (List.replicate (N - s.1.length) q.item) s.1) (fun s => [(0, .pointer (some ⟨t, 0, none⟩)), (1, str name), (6, .int .i64 (c : Int)), (11, .pointer (some ⟨b9, 0, none⟩)), (12, .slice s.2.1 s.1.length s.2.2)])
          (fun s => blk b9 98 (qstC q) :: sl E64 2 s.2.1 s.2.2 s.1 :: ts t d e S u :: wl d m w :: R :: Rs) (fun s => N - s.1.length) ([], none, 0) ⟨Nat.zero_le _, rfl⟩ ?_
        rintro ⟨used, A, cc⟩ ⟨hul, hus⟩
        simp only at hul hus ⊢
        by_cases hlt : used.length < N
        · obtain ⟨M, hM⟩ : ∃ M, N - used.length = M + 1 := ⟨N - used.length - 1, by omega⟩
          rw [hM, usesOf_rep] at hus
          have F1 := spare_spec t d e m w S u (by have := bw.nt; omega) name q.item used (by omega) A cc (sl E64 2 A cc used) reads_sl
          by_cases h0 : spareN w name q.item used = 0
          · rw [if_pos h0] at hus
            rw [h0] at F1
            rw [hus]
            unfold lackT at F3 ⊢
            clear hus
            refine goW ?_
            (repeat' (first | exact trivial | apply And.intro | intro _))
            all_goals first
              | (exfalso; first | contradiction | omega)
              | exact ret0 ⟨m, rfl, rfl⟩
          · rw [if_neg h0] at hus
            generalize spareN w name q.item used = id2 at *
            have hus2 : Bx (usesOf w name (List.replicate N q.item) [] = usesOf w name (List.replicate (N - (used ++ [id2]).length) q.item) (used ++ [id2])) := ⟨by rw [hus, List.length_append, List.length_cons, List.length_nil, show N - (used.length + (0 + 1)) = M by omega]⟩
            clear hus
            refine goW ?_
            (repeat' (first | exact trivial | apply And.intro | intro _))
            all_goals first
              | (exfalso; first | contradiction | omega)
              | (rename Option Addr => A'; rename Nat => c'
                 exact rnd (used ++ [id2], A', c') ⟨by simp only [List.length_append, List.length_cons, List.length_nil]; omega, hus2.get⟩ (by simp only [List.length_append, List.length_cons, List.length_nil]; omega))
        have hun : N - used.length = 0 := by omega
        rw [hun, List.replicate_zero, usesOf] at hus
        rw [hus]
        clear hus F2 F3
        simp only
        by_cases hgo : maxGold < x.gold + q.gold
        · rw [if_pos hgo]
          unfold maxGold at hgo
          have F3 := say_spec t d e S u name [89, 111, 117, 32, 99, 97, 110, 110, 111, 116, 32, 116, 97, 107, 101, 32, 116, 104, 97, 116, 32, 109, 117, 99, 104, 46] (by omega)
          refine goW ?_
          (repeat' (first | exact trivial | apply And.intro | intro _))
          all_goals first
            | (exfalso; first | contradiction | omega)
            | exact ret0 ⟨m, rfl, rfl⟩
        rw [if_neg hgo]
        unfold maxGold at hgo
        refine goW ?_
        (repeat' (first | exact trivial | apply And.intro | intro _))
        all_goals first
          | (exfalso; first | contradiction | omega)
          | skip
        refine loop (σ := Nat × Lay) (fun s => s.1 ≤ used.length) (fun s => [(0, .pointer (some ⟨t, 0, none⟩)), (1, str name), (6, .int .i64 (c : Int)), (11, .pointer (some ⟨b9, 0, none⟩)), (12, .slice A used.length cc), (14, .int .i64 (s.1 : Int))])
          (fun s => blk b9 98 (qstC q) :: sl E64 2 A cc used :: ts t d e S u :: wl d s.2 ((used.take s.1).foldl goneW w) :: R :: Rs) (fun s => used.length - s.1) (0, m) (Nat.zero_le _) ?_
        rintro ⟨i, m1⟩ hi
        simp only at hi ⊢
        have hgl := gones_len (used.take i) w
        have hgc := gones_chars (used.take i) w
        have bnt := bw.nt
        by_cases hi2 : i < used.length
        · obtain ⟨id3, hy⟩ : ∃ y, used[i]? = some y := ⟨_, List.getElem?_eq_getElem hi2⟩
          have hst := fold_step (f := goneW) (b := w) hy
          generalize (used.take i).foldl goneW w = w1 at *
          have F1 := Gone_spec d m1 w1 (by omega) id3
          replace hst := Bx.mk hst
          clear hgc hgl
          refine goW ?_
          (repeat' (first | exact trivial | apply And.intro | intro _))
          all_goals first
            | (exfalso; first | contradiction | omega)
            | (rename Lay => m2; exact rnd (i + 1, m2) hi2 (by simp only; omega) (hh := by simp only [hst.get]; (exact ent_)))
        rw [List.take_of_length_le (by omega)] at hgl hgc ⊢
        have hge : used.length ≤ i := by omega
        generalize used.foldl goneW w = w1 at *
        obtain ⟨c1, c2, c3, c4⟩ := hgc
        refine cwl (d := d) (m := m1) (t := w1) fun lm1 => ?_
        have hx1 : w1.chars[c]? = some x := by rw [c1]; exact hx
        have hcl1 := (List.getElem?_eq_some_iff.1 hx1).1
        clear hx hz hcl zc
        obtain ⟨⟨A1, c5⟩, hz, _⟩ := zip_get hx1 lm1.1
        have zc : w1.chars.length = (w1.chars.zip m1.dn).length := by rw [List.length_zip, lm1.1, Nat.min_self]
        rw [setC_eq hx1]
        obtain ⟨x2, hx2e⟩ : ∃ x2, x2 = { x with gold := x.gold + q.gold } := ⟨_, rfl⟩
        have hd2 : x2.done = x.done := by rw [hx2e]
        have hxs : (w1.chars.set c x2)[c]? = some x2 := List.getElem?_set_self hcl1
        have hzs : ((w1.chars.set c x2).zip m1.dn)[c]? = some (x2, A1, c5) := by
          rw [List.getElem?_zip_eq_some]
          exact ⟨hxs, by have := List.getElem?_zip_eq_some.1 hz; exact this.2⟩
        have zs : (w1.chars.set c x2).length = ((w1.chars.set c x2).zip m1.dn).length := by rw [List.length_zip, List.length_set, lm1.1, Nat.min_self]
        have lm2 : Laid m1 { w1 with chars := w1.chars.set c x2, minted := w1.minted + q.gold } := ⟨by simp only [List.length_set]; exact lm1.1, lm1.2⟩
        simp only
        rw [← hx2e]
        by_cases hr0 : q.reward = 0
        · rw [if_pos hr0]
          haveI : Rd (wl d m1 { w1 with chars := w1.chars.set c x2, minted := w1.minted + q.gold }) E64 A1 x2.done := ⟨(wl_rw (d := d) (m := m1) (w := { w1 with chars := w1.chars.set c x2, minted := w1.minted + q.gold })).dn (x2, A1, c5) (List.mem_of_getElem? hzs)⟩
          have hfd : x2.done.length ≤ 10000 := by rw [hd2]; exact hxd
          refine C.one (A := wl d m1 w1) (C' := wl d m1 w1) (by exact find_) (fun _ h => h) ?_
          subst hx2e
          rw [setC_eq (w := { w1 with chars := w1.chars.set c { x with gold := x.gold + q.gold }, minted := w1.minted + q.gold }) hxs]
          refine goW ?_
          (repeat' (first | exact trivial | apply And.intro | intro _))
          all_goals first
            | (exfalso; first | contradiction | omega)
            | skip
          all_goals (
            rename Option Addr => A'
            rename Nat => c'
            obtain ⟨dl, hdl⟩ : ∃ dl, dl = x.done := ⟨_, rfl⟩
            refine loop (σ := Nat) (fun j => j ≤ dl.length ∧ insK ltI dl q.id j = insP ltI dl q.id) (fun j => [(0, .pointer (some ⟨t, 0, none⟩)), (1, str name), (6, .int .i64 (c : Int)), (15, .slice A' (dl ++ [q.id]).length c'), (16, .int .i64 (j : Int))]) (fun j => sl E64 3 A' c' (putAt dl j q.id) :: ts t d e S u :: wl d m1 (({ w1 with chars := w1.chars.set c { x with gold := x.gold + q.gold }, minted := w1.minted + q.gold } : Wld)) :: R :: Rs) (fun j => j) dl.length ⟨Nat.le_refl _, rfl⟩ ?_ (by rw [hdl]; exact ⟨rfl, rfl, rfl, rfl, congrArg (fun z => some (Value.int .i64 z)) (by rw [List.length_append]; simp), trivial⟩) (by rw [putAt_end, hdl]; (exact ent_))
            rintro j ⟨hj1, hj2⟩
            have hjl := putAt_len dl j q.id
            have hdal : (dl ++ [q.id]).length = dl.length + 1 := by rw [List.length_append]; rfl
            have hps := putAt_self hj1 q.id
            have hdle : dl.length ≤ 10000 := by rw [hdl]; exact hxd
            have F5 := say_spec t d e S u name [89, 111, 117, 32, 100, 105, 100, 32, 105, 116, 46] (by omega)
            by_cases hj0 : 0 < j
            · obtain ⟨y2, hy⟩ : ∃ y, dl[j - 1]? = some y := ⟨_, List.getElem?_eq_getElem (by omega)⟩
              have hy2 : (putAt dl j q.id)[((j : Int) - 1).toNat]? = some y2 := by rw [show ((j : Int) - 1).toNat = j - 1 by omega, putAt_pre (by omega) hj1]; exact hy
              have hsw := putAt_swap hj0 hy q.id
              rw [show j - 1 = ((j : Int) - 1).toNat by omega] at hsw
              generalize hL : putAt dl j q.id = L at *
              have hq3 : (L.set ((j : Int) - 1).toNat q.id)[j]? = some q.id := by rw [List.getElem?_set_ne (by omega)]; exact hps
              by_cases hlt : q.id < y2
              · have hgo := ins_go hj2 hj0 hy (show ltI q.id y2 = true from decide_eq_true hlt)
                clear hj2 hy
                replace hsw := Bx.mk hsw
                replace hgo := Bx.mk hgo
                refine goW ?_
                (repeat' (first | exact trivial | apply And.intro | intro _))
                all_goals first
                  | (exfalso; first | contradiction | omega)
                  | skip
                refine W.stj (by exact rfl) (by exact rfl) (by exact find_) rfl hy2 (by exact incl_) ?_
                refine goW ?_
                (repeat' (first | exact trivial | apply And.intro | intro _))
                refine W.stj (by exact rfl) (by exact rfl) (by exact find_) rfl hq3 (by exact incl_) ?_
                refine goW ?_
                (repeat' (first | exact trivial | apply And.intro | intro _))
                exact rnd (j - 1) ⟨by omega, hgo.get⟩ (by omega) ⟨rfl, rfl, rfl, rfl, congrArg (fun z => some (Value.int .i64 z)) (by omega), trivial⟩ (by rw [hsw.get, show ((j : Int) - 1).toNat = j - 1 by omega]; (exact ent_))
              · have hend := ins_end hj2 hj0 hy (show ltI q.id y2 = false from decide_eq_false hlt)
                rw [hL] at hend
                clear hj2 hy
                rw [hdl] at hend
                refine goW ?_
                (repeat' (first | exact trivial | apply And.intro | intro _))
                all_goals first
                  | (exfalso; first | contradiction | omega)
                  | skip
                refine W.setD (i := c) (u := { x with gold := x.gold + q.gold }) (ds := L) (by exact rfl) (by exact rfl) (by exact find_) (by exact find_) (by rw [hdal, hjl]) rfl hxs (by exact incl_) ?_
                refine goW ?_
                (repeat' (first | exact trivial | apply And.intro | intro _))
                all_goals exact ret0 (Ps := [ts t d e (S ++ [(name, [89, 111, 117, 32, 100, 105, 100, 32, 105, 116, 46])]) u, wl d { m1 with dn := (m1).dn.set c (A', c') } { ({ w1 with chars := w1.chars.set c { x with gold := x.gold + q.gold }, minted := w1.minted + q.gold } : Wld) with chars := (({ w1 with chars := w1.chars.set c { x with gold := x.gold + q.gold }, minted := w1.minted + q.gold } : Wld)).chars.set c { { x with gold := x.gold + q.gold } with done := L } }, R]) ⟨_, rfl, by rw [hend]; rfl⟩
            · have hk3 : j = 0 := by omega
              subst hk3
              have hend := ins_nil hj2
              generalize putAt dl 0 q.id = L at *
              clear hj2
              rw [hdl] at hend
              refine goW ?_
              (repeat' (first | exact trivial | apply And.intro | intro _))
              all_goals first
                | (exfalso; first | contradiction | omega)
                | skip
              refine W.setD (i := c) (u := { x with gold := x.gold + q.gold }) (ds := L) (by exact rfl) (by exact rfl) (by exact find_) (by exact find_) (by rw [hdal, hjl]) rfl hxs (by exact incl_) ?_
              refine goW ?_
              (repeat' (first | exact trivial | apply And.intro | intro _))
              all_goals exact ret0 (Ps := [ts t d e (S ++ [(name, [89, 111, 117, 32, 100, 105, 100, 32, 105, 116, 46])]) u, wl d { m1 with dn := (m1).dn.set c (A', c') } { ({ w1 with chars := w1.chars.set c { x with gold := x.gold + q.gold }, minted := w1.minted + q.gold } : Wld) with chars := (({ w1 with chars := w1.chars.set c { x with gold := x.gold + q.gold }, minted := w1.minted + q.gold } : Wld)).chars.set c { { x with gold := x.gold + q.gold } with done := L } }, R]) ⟨_, rfl, by rw [hend]; rfl⟩
              )
        · rw [if_neg hr0]
          subst hx2e
          refine goW ?_
          (repeat' (first | exact trivial | apply And.intro | intro _))
          all_goals first
            | (exfalso; first | contradiction | omega)
            | skip
          all_goals (
            refine cal (Make_spec d m1 { w1 with chars := w1.chars.set c { x with gold := x.gold + q.gold }, minted := w1.minted + q.gold } (by simp only; omega) (by simp only; omega) (by simp only; omega) q.reward ⟨0, 0, 2, 0, name⟩) ?_
            rintro _ _ ⟨m2, rfl, rfl⟩
            simp only [List.cons_append, List.nil_append]
            have hch : (makeIf { w1 with chars := w1.chars.set c { x with gold := x.gold + q.gold }, minted := w1.minted + q.gold } q.reward 2 0 name).chars = w1.chars.set c { x with gold := x.gold + q.gold } := by unfold makeIf; split <;> rfl
            generalize makeIf { w1 with chars := w1.chars.set c { x with gold := x.gold + q.gold }, minted := w1.minted + q.gold } q.reward 2 0 name = w3 at *
            refine wwl (d := d) (m := m2) (t := w3) fun lm3 => ?_
            have hx3 : w3.chars[c]? = some { x with gold := x.gold + q.gold } := by rw [hch]; exact hxs
            clear hxs hzs zs
            obtain ⟨⟨A6, c6⟩, hz6, _⟩ := zip_get hx3 lm3.1
            have zc3 : w3.chars.length = (w3.chars.zip m2.dn).length := by rw [List.length_zip, lm3.1, Nat.min_self]
            have hxs := hx3
            have hcl3 : c < w3.chars.length := (List.getElem?_eq_some_iff.1 hx3).1
            haveI : Rd (wl d m2 w3) E64 A6 x.done := ⟨(wl_rw (d := d) (m := m2) (w := w3)).dn ({ x with gold := x.gold + q.gold }, A6, c6) (List.mem_of_getElem? hz6)⟩
            rw [setC_eq hx3]
            refine goW ?_
            (repeat' (first | exact trivial | apply And.intro | intro _))
            all_goals first
              | (exfalso; first | contradiction | omega)
              | skip)
          all_goals (
            rename Option Addr => A'
            rename Nat => c'
            obtain ⟨dl, hdl⟩ : ∃ dl, dl = x.done := ⟨_, rfl⟩
            refine loop (σ := Nat) (fun j => j ≤ dl.length ∧ insK ltI dl q.id j = insP ltI dl q.id) (fun j => [(0, .pointer (some ⟨t, 0, none⟩)), (1, str name), (6, .int .i64 (c : Int)), (15, .slice A' (dl ++ [q.id]).length c'), (16, .int .i64 (j : Int))]) (fun j => sl E64 3 A' c' (putAt dl j q.id) :: ts t d e S u :: wl d m2 (w3) :: R :: Rs) (fun j => j) dl.length ⟨Nat.le_refl _, rfl⟩ ?_ (by rw [hdl]; exact ⟨rfl, rfl, rfl, rfl, congrArg (fun z => some (Value.int .i64 z)) (by rw [List.length_append]; simp), trivial⟩) (by rw [putAt_end, hdl]; (exact ent_))
            rintro j ⟨hj1, hj2⟩
            have hjl := putAt_len dl j q.id
            have hdal : (dl ++ [q.id]).length = dl.length + 1 := by rw [List.length_append]; rfl
            have hps := putAt_self hj1 q.id
            have hdle : dl.length ≤ 10000 := by rw [hdl]; exact hxd
            have F5 := say_spec t d e S u name [89, 111, 117, 32, 100, 105, 100, 32, 105, 116, 46] (by omega)
            by_cases hj0 : 0 < j
            · obtain ⟨y2, hy⟩ : ∃ y, dl[j - 1]? = some y := ⟨_, List.getElem?_eq_getElem (by omega)⟩
              have hy2 : (putAt dl j q.id)[((j : Int) - 1).toNat]? = some y2 := by rw [show ((j : Int) - 1).toNat = j - 1 by omega, putAt_pre (by omega) hj1]; exact hy
              have hsw := putAt_swap hj0 hy q.id
              rw [show j - 1 = ((j : Int) - 1).toNat by omega] at hsw
              generalize hL : putAt dl j q.id = L at *
              have hq3 : (L.set ((j : Int) - 1).toNat q.id)[j]? = some q.id := by rw [List.getElem?_set_ne (by omega)]; exact hps
              by_cases hlt : q.id < y2
              · have hgo := ins_go hj2 hj0 hy (show ltI q.id y2 = true from decide_eq_true hlt)
                clear hj2 hy
                replace hsw := Bx.mk hsw
                replace hgo := Bx.mk hgo
                refine goW ?_
                (repeat' (first | exact trivial | apply And.intro | intro _))
                all_goals first
                  | (exfalso; first | contradiction | omega)
                  | skip
                refine W.stj (by exact rfl) (by exact rfl) (by exact find_) rfl hy2 (by exact incl_) ?_
                refine goW ?_
                (repeat' (first | exact trivial | apply And.intro | intro _))
                refine W.stj (by exact rfl) (by exact rfl) (by exact find_) rfl hq3 (by exact incl_) ?_
                refine goW ?_
                (repeat' (first | exact trivial | apply And.intro | intro _))
                exact rnd (j - 1) ⟨by omega, hgo.get⟩ (by omega) ⟨rfl, rfl, rfl, rfl, congrArg (fun z => some (Value.int .i64 z)) (by omega), trivial⟩ (by rw [hsw.get, show ((j : Int) - 1).toNat = j - 1 by omega]; (exact ent_))
              · have hend := ins_end hj2 hj0 hy (show ltI q.id y2 = false from decide_eq_false hlt)
                rw [hL] at hend
                clear hj2 hy
                rw [hdl] at hend
                refine goW ?_
                (repeat' (first | exact trivial | apply And.intro | intro _))
                all_goals first
                  | (exfalso; first | contradiction | omega)
                  | skip
                refine W.setD (i := c) (u := { x with gold := x.gold + q.gold }) (ds := L) (by exact rfl) (by exact rfl) (by exact find_) (by exact find_) (by rw [hdal, hjl]) rfl hxs (by exact incl_) ?_
                refine goW ?_
                (repeat' (first | exact trivial | apply And.intro | intro _))
                all_goals exact ret0 (Ps := [ts t d e (S ++ [(name, [89, 111, 117, 32, 100, 105, 100, 32, 105, 116, 46])]) u, wl d { m2 with dn := (m2).dn.set c (A', c') } { w3 with chars := (w3).chars.set c { { x with gold := x.gold + q.gold } with done := L } }, R]) ⟨_, rfl, by rw [hend]; rfl⟩
            · have hk3 : j = 0 := by omega
              subst hk3
              have hend := ins_nil hj2
              generalize putAt dl 0 q.id = L at *
              clear hj2
              rw [hdl] at hend
              refine goW ?_
              (repeat' (first | exact trivial | apply And.intro | intro _))
              all_goals first
                | (exfalso; first | contradiction | omega)
                | skip
              refine W.setD (i := c) (u := { x with gold := x.gold + q.gold }) (ds := L) (by exact rfl) (by exact rfl) (by exact find_) (by exact find_) (by rw [hdal, hjl]) rfl hxs (by exact incl_) ?_
              refine goW ?_
              (repeat' (first | exact trivial | apply And.intro | intro _))
              all_goals exact ret0 (Ps := [ts t d e (S ++ [(name, [89, 111, 117, 32, 100, 105, 100, 32, 105, 116, 46])]) u, wl d { m2 with dn := (m2).dn.set c (A', c') } { w3 with chars := (w3).chars.set c { { x with gold := x.gold + q.gold } with done := L } }, R]) ⟨_, rfl, by rw [hend]; rfl⟩
              )
end
end Go.Proofs.YtflmbhkjhfmeoaaGreat
