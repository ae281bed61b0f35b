/-
  What the document says of lines, walked (of LnMore, for seats without the library's tables); how many and how long they are.
  The document's Check of tables: 0 just of Good ones.
  The document's reading of a world's files: what memory it needs; its Check.
  EntityNew: a new world of any tables that may be.
-/
import Derived.Test.YtlibnpdbcjgegaaGreatLnRef
import Derived.Test.YtlibnpdbcjgegaaGreatMgD
import Derived.Test.YtlibnpdbcjgegaaGreatMgG
import Derived.Test.YtlibnpdbcjgegaaGreatMgH
import Derived.Test.YtlibnpdbcjgegaaGreatMgI
import Derived.Test.YtlibnpdbcjgegaaGreatMgJ
import Derived.Test.YtlibnpdbcjgegaaGreatMgE
import Derived.Test.YtlibnpdbcjgegaaGreatMgB
import Derived.Test.YtlibnpdbcjgegaaGreatWdNewT
namespace Go.Proofs.YtlibnpdbcjgegaaGreat
open Go.SL
set_option linter.unusedVariables false
set_option linter.unusedSimpArgs false
set_option maxHeartbeats 4000000
theorem RefLines_spec (s : List UInt8) (hl : s.length ≤ 1000000) : Trip Tryz.prog 41 [str s] [] (fun u Ps => ∃ A c, u = .slice A (linesM s).length c ∧ Ps = [sl Enc.str 9 A c (linesM s)]) := by
  refine Trip.of (m := 50) Tryz.func41 rfl rfl rfl ?_
  intro o Rs
  simp only [List.cons_append, List.nil_append, enumFrom]
  refine go ?_
  refine ⟨?_, by simp⟩ <;> intros
  refine loop (σ := Nat × Nat × List (List UInt8) × Option Addr × Nat) (fun x => x.1 ≤ s.length ∧ x.2.1 ≤ x.1 ∧ x.2.2.1.length ≤ x.1 ∧ x.2.2.1 ++ lgo (s.drop x.1) (cut s (x.2.1, x.1)) = linesM s)
    (fun x => [(0, str s), (3, .slice x.2.2.2.1 x.2.2.1.length x.2.2.2.2), (4, .int .i64 (x.2.1 : Int)), (5, .int .i64 (x.1 : Int))]) (fun x => sl Enc.str 9 x.2.2.2.1 x.2.2.2.2 x.2.2.1 :: Rs) (fun x => s.length - x.1) (0, 0, [], none, 0) ⟨by omega, by simp, by simp, by simp [cut, linesM]⟩ ?_
  rintro ⟨i, fr, acc, A, c⟩ ⟨h1, h2, h3, h4⟩
  simp only at h1 h2 h3 h4 ⊢
  by_cases hi : i < s.length
  · obtain ⟨b, hb⟩ : ∃ b, s[i]? = some b := ⟨_, List.getElem?_eq_getElem hi⟩
    have hd : s.drop i = b :: s.drop (i + 1) := by rw [List.drop_eq_getElem_cons hi, (List.getElem?_eq_some_iff.1 hb).2]
    have hc1 : cut s (i, i + 1) = [b] := by simp only [cut, hd]; rw [show i + 1 - i = 1 from by omega]; rfl
    rw [hd, lgo] at h4
    by_cases hb10 : b = 10
    · subst hb10
      rw [if_pos rfl] at h4
      have h6 : ∀ x, dropCR (cut s (fr, i)) = x → (acc ++ [x]) ++ lgo (s.drop (i + 1)) (cut s (i + 1, i + 1)) = linesM s := by
        rintro x rfl; rw [← h4]; simp [cut]
      by_cases hfi : fr < i
      · obtain ⟨e, he⟩ : ∃ e, s[i - 1]? = some e := ⟨_, List.getElem?_eq_getElem (by omega)⟩
        have he' : s[((i : Int) - 1).toNat]? = some e := by rw [← he]; congr 1; omega
        have hlast : (cut s (fr, i)).getLast? = some e := by
          rw [show i = (i - 1) + 1 from by omega, cut_more s (show fr ≤ i - 1 by omega) (Nat.le_succ _)]
          have : cut s (i - 1, i - 1 + 1) = [e] := by simp only [cut, show i - 1 + 1 - (i - 1) = 1 from by omega]; rw [List.drop_eq_getElem_cons (by omega : i - 1 < s.length), (List.getElem?_eq_some_iff.1 he).2]; rfl
          rw [this]; simp
        by_cases he13 : e = 13
        · subst he13
          have hdr : dropCR (cut s (fr, i)) = cut s (fr, i - 1) := by
            rw [dropCR, if_pos hlast]
            have h7 := cut_more s (show fr ≤ i - 1 by omega) (show i - 1 ≤ i by omega)
            have : cut s (i - 1, i) = [13] := by simp only [cut, show i - (i - 1) = 1 from by omega]; rw [List.drop_eq_getElem_cons (by omega : i - 1 < s.length), (List.getElem?_eq_some_iff.1 he).2]; rfl
            rw [h7, this]; simp
          have hi1 : ((i : Int) - 1).toNat = i - 1 := by omega
          refine go ?_
          refine ⟨?_, by simp⟩ <;> intros
          rename_i A' c'
          rw [hi1]
          exact rnd (i + 1, i + 1, acc ++ [cut s (fr, i - 1)], A', c') ⟨by simp only; omega, by simp, by simp; omega, h6 (cut s (fr, i - 1)) hdr⟩ (by simp only; omega)
        · have hdr : dropCR (cut s (fr, i)) = cut s (fr, i) := by rw [dropCR, if_neg (by rw [hlast]; simpa using he13)]
          have n1 : ¬ (e.toNat : Int) = 13 := by intro h; apply he13; apply UInt8.toNat_inj.1; show e.toNat = 13; omega
          refine go ?_
          refine ⟨?_, by simp⟩ <;> intros
          rename_i A' c'
          exact rnd (i + 1, i + 1, _, A', c') ⟨by simp only; omega, by simp, by simp; omega, h6 _ hdr⟩ (by simp only; omega)
      · have hfe : fr = i := by omega
        subst hfe
        have hdr : dropCR (cut s (fr, fr)) = cut s (fr, fr) := by simp [cut, dropCR]
        refine go ?_
        refine ⟨?_, by simp⟩ <;> intros
        rename_i A' c'
        exact rnd (fr + 1, fr + 1, _, A', c') ⟨by simp only; omega, by simp, by simp; omega, h6 _ hdr⟩ (by simp only; omega)
    · rw [if_neg hb10] at h4
      have n1 : ¬ (b.toNat : Int) = 10 := by intro h; apply hb10; apply UInt8.toNat_inj.1; show b.toNat = 10; omega
      have h6 : acc ++ lgo (s.drop (i + 1)) (cut s (fr, i + 1)) = linesM s := by rw [← h4, cut_more s h2 (Nat.le_succ i), hc1]
      refine go ?_
      refine ⟨?_, by simp⟩ <;> intros
      exact rnd (i + 1, fr, acc, A, c) ⟨by simp only; omega, by simp only; omega, by simp only; omega, h6⟩ (by simp only; omega)
  · have he : i = s.length := by omega
    subst he
    rw [List.drop_length, lgo] at h4
    by_cases hfi : fr < s.length
    · have hcs : cut s (fr, s.length) = s.drop fr := by simp only [cut]; rw [List.take_of_length_le (by simp)]
      have hne : s.drop fr ≠ [] := by intro h; have := congrArg List.length h; simp at this; omega
      rw [hcs, if_neg hne] at h4
      refine go ?_
      refine ⟨?_, by simp⟩ <;> intros
      rename_i A' c'
      rw [← h4]
      exact ret1 ⟨A', c', rfl, rfl⟩
    · have hcs : cut s (fr, s.length) = [] := by simp only [cut]; rw [show s.length - fr = 0 from by omega]; rfl
      rw [hcs, if_pos rfl, List.append_nil] at h4
      refine go ?_
      refine ⟨?_, by simp⟩ <;> intros
      rw [← h4]
      exact ret1 ⟨A, c, rfl, rfl⟩
theorem drop_len (cur : List UInt8) : (dropCR cur).length ≤ cur.length := by
  unfold dropCR; split
  · rw [List.length_dropLast]; omega
  · exact Nat.le_refl _
theorem lgo_len : ∀ (r cur : List UInt8), (lgo r cur).length ≤ r.length + 1
  | [], cur => by unfold lgo; split <;> simp
  | c :: r, cur => by
    unfold lgo
    split
    · have := lgo_len r []; simp only [List.length_cons]; omega
    · have := lgo_len r (cur ++ [c]); simp only [List.length_cons]; omega
theorem lgo_mem : ∀ (r cur x : List UInt8), x ∈ lgo r cur → x.length ≤ cur.length + r.length
  | [], cur, x, h => by
    unfold lgo at h; split at h
    · cases h
    · simp only [List.mem_singleton] at h; subst h; simp
  | c :: r, cur, x, h => by
    unfold lgo at h; split at h
    · rcases List.mem_cons.1 h with rfl | h
      · have := drop_len cur; simp only [List.length_cons]; omega
      · have := lgo_mem r [] x h; simp only [List.length_nil, List.length_cons] at this ⊢; omega
    · have := lgo_mem r (cur ++ [c]) x h; simp only [List.length_append, List.length_cons, List.length_nil] at this ⊢; omega
theorem wgo_mem : ∀ (r cur x : List UInt8), x ∈ wgo r cur → x.length ≤ cur.length + r.length
  | [], cur, x, h => by
    unfold wgo at h; split at h
    · cases h
    · simp only [List.mem_singleton] at h; subst h; simp
  | c :: r, cur, x, h => by
    unfold wgo at h; split at h
    · split at h
      · have := wgo_mem r [] x h; simp only [List.length_nil, List.length_cons] at this ⊢; omega
      · rcases List.mem_cons.1 h with rfl | h
        · simp only [List.length_cons]; omega
        · have := wgo_mem r [] x h; simp only [List.length_nil, List.length_cons] at this ⊢; omega
    · have := wgo_mem r (cur ++ [c]) x h; simp only [List.length_append, List.length_cons, List.length_nil] at this ⊢; omega
theorem lines_len (s : List UInt8) : (linesM s).length ≤ s.length + 1 := lgo_len s []
theorem lines_mem {s x : List UInt8} (h : x ∈ linesM s) : x.length ≤ s.length := by have := lgo_mem s [] x h; simpa using this
theorem words_len (s : List UInt8) : (wordsM s).length ≤ s.length + 1 := wgo_len s []
theorem words_mem {s x : List UInt8} (h : x ∈ wordsM s) : x.length ≤ s.length := by have := wgo_mem s [] x h; simpa using this
end Go.Proofs.YtlibnpdbcjgegaaGreat
namespace Go.Proofs.YtlibnpdbcjgegaaGreat
open Go.SL
set_option linter.unusedVariables false
set_option linter.unusedSimpArgs false
set_option maxHeartbeats 8000000
set_option maxRecDepth 20000
theorem trip_mono {P : Program} {f : FuncId} {args : List Value} {Pre : List HProp} {q q' : Value → List HProp → Prop} (h : Trip P f args Pre q) (hq : ∀ v Ps, q v Ps → q' v Ps) : Trip P f args Pre q' :=
  ⟨fun o w Rs hw => (h.run o w Rs hw).mono fun e w' ⟨v, Ps, h1, h2, h3⟩ => ⟨v, Ps, h1, hq _ _ h2, h3⟩⟩
theorem bool_sub {X : Prop} {L : List HProp} (v : Value) (Ps : List HProp) (h : ∃ b, v = .bool b ∧ Ps = L ∧ (b = true → X)) : ∃ b : {b : Bool // b = true → X}, v = .bool b.1 ∧ Ps = L := by
  obtain ⟨b, h1, h2, h3⟩ := h
  exact ⟨⟨b, h3⟩, h1, h2⟩
/-- What Check asks of the sizes of lists, so that it can be walked. -/
structure Smt (t : Tab) : Prop where
  r : t.rooms.length ≤ 1000000
  p : t.protos.length ≤ 1000000
  m : t.mobs.length ≤ 1000000
  c : t.recipes.length ≤ 1000000
  q : t.quests.length ≤ 1000000
  s : t.shops.length ≤ 1000000
  rn : ∀ x ∈ t.rooms, x.name.length ≤ 1000000
  pn : ∀ x ∈ t.protos, x.name.length ≤ 1000000
  mn : ∀ x ∈ t.mobs, x.name.length ≤ 1000000
  nd : ∀ x ∈ t.recipes, x.needs.length ≤ 1000000
  it : ∀ x ∈ t.shops, x.items.length ≤ 1000000
theorem Check13_spec (e : Nat) (mt : Tay) (t : Tab) (lt : TLaid mt t) (sm : Smt t) (P : HProp) [hp : RT P e mt t] :
    Trip Tryz.prog 9 [.pointer (some ⟨e, 0, none⟩)] [P] (fun v Ps => ∃ k : {k : Int // k = 0 → Good t}, v = .int .i64 k.1 ∧ Ps = [P]) := by
  refine Trip.of (m := 31) Tryz.func9 rfl rfl rfl ?_
  intro o Rs
  simp only [List.cons_append, List.nil_append, enumFrom]
  obtain ⟨a1, a2, a3, a4, a5, a6, a7, a8, a9, a10, a11⟩ := sm
  have F1 := trip_mono (rooms_spec e mt t a1 a7 P) bool_sub
  have F2 := trip_mono (things_spec e mt t a2 a8 a3 a9 P) bool_sub
  have F3 := trip_mono (rest_spec e mt t lt a4 a5 a6 P) bool_sub
  have F4 := trip_mono (there_spec e mt t lt a1 a2 a3 a4 a5 a6 a10 a11 P) bool_sub
  by_cases hne : t.rooms.length = 0
  · refine go ?_
    refine ⟨?_, by simp⟩ <;> intros
    exact ret1 ⟨⟨13, fun h => absurd h (by decide)⟩, rfl, rfl⟩
  refine go ?_
  (repeat' (first | exact trivial | apply And.intro | intro _))
  all_goals first
    | exact ret1 ⟨⟨13, fun h => absurd h (by decide)⟩, rfl, rfl⟩
    | exact ret1 ⟨⟨6, fun h => absurd h (by decide)⟩, rfl, rfl⟩
    | skip
  rename {b : Bool // b = true → t.rooms.length ≤ 60 ∧ Upto RmRow t.rooms t.rooms.length} => b1
  rename {b : Bool // b = true → (t.protos.length ≤ 60 ∧ t.mobs.length ≤ 60) ∧ Upto PrRow t.protos t.protos.length ∧ Upto MoRow t.mobs t.mobs.length} => b2
  rename {b : Bool // b = true → (t.recipes.length ≤ 60 ∧ t.quests.length ≤ 60 ∧ t.shops.length ≤ 60) ∧ Upto ReRow t.recipes t.recipes.length ∧ Upto QuRow t.quests t.quests.length ∧ Upto ShRow t.shops t.shops.length} => b3
  rename {b : Bool // b = true → There t} => b4
  have h1 := b1.2 (by assumption)
  have h2 := b2.2 (by assumption)
  have h3 := b3.2 (by assumption)
  have h4 := b4.2 (by assumption)
  exact ret1 ⟨⟨0, fun _ => good_of (by omega) ⟨h1.1, h2.1.1, h2.1.2, h3.1.1, h3.1.2.1, h3.1.2.2, h1.2, h2.2.1, h2.2.2, h3.2.1, h3.2.2.1, h3.2.2.2⟩ h4⟩, rfl, rfl⟩
end Go.Proofs.YtlibnpdbcjgegaaGreat
namespace Go.Proofs.YtlibnpdbcjgegaaGreat
open Go.SL
set_option linter.unusedVariables false
set_option linter.unusedSimpArgs false
set_option maxHeartbeats 8000000
set_option maxRecDepth 20000
/-- What Parse answers: no tables and a line's number, or tables. -/
def ParseQ (n : Nat) (v : Value) (Ps : List HProp) : Prop :=
  (∃ k : Int, 1 ≤ k ∧ v = .tuple #[.pointer none, .int .i64 k] ∧ Ps = []) ∨ ∃ (e : Nat) (mt : Tay) (t : Tab), Sz t n ∧ v = .tuple #[.pointer (some ⟨e, 0, none⟩), .int .i64 0] ∧ Ps = [tb e mt t]
theorem Parse_spec (s : Tx) (hs : s.length ≤ 90000) : Trip Tryz.prog 7 [str s] [] (ParseQ (s.length + 1)) := by
  refine Trip.of (m := 43) Tryz.func7 rfl rfl rfl ?_
  intro o Rs
  simp only [List.cons_append, List.nil_append, enumFrom]
  have F1 := RefLines_spec s (by omega)
  have hll := lines_len s
  have hlm : ∀ x ∈ linesM s, x.length ≤ s.length := fun x hx => lines_mem hx
  refine go ?_
  refine ⟨?_, by simp⟩ <;> intros
  rename_i e A c
  refine C.turn (fun st hst => nest_nil (E := E64) (e := 3) (nest_nil (E := E64) (e := 3) hst)) ?_
  refine cfoldt e ⟨none, 0, none, 0, none, 0, none, 0, none, 0, none, 0, [], []⟩ ⟨[], [], [], [], [], []⟩ ⟨rfl, rfl⟩ ?_
  clear F1
  generalize linesM s = L at *
  refine loop (σ := Nat × Tay × Tab) (fun x => x.1 ≤ L.length ∧ Sz x.2.2 x.1) (fun x => [(0, str s), (4, .pointer (some ⟨e, 0, none⟩)), (5, .slice A L.length c), (6, .int .i64 (x.1 : Int))]) (fun x => tb e x.2.1 x.2.2 :: sl Enc.str 9 A c L :: Rs) (fun x => L.length - x.1) (0, ⟨none, 0, none, 0, none, 0, none, 0, none, 0, none, 0, [], []⟩, ⟨[], [], [], [], [], []⟩) ⟨Nat.zero_le _, ⟨by simp, by simp, by simp, by simp, by simp, by simp, by simp, by simp, by simp, by simp, by simp⟩⟩ ?_
  rintro ⟨k, mt, t⟩ ⟨hk, sz⟩
  simp only at hk sz ⊢
  by_cases hk2 : k < L.length
  · obtain ⟨x, hx⟩ : ∃ x, L[k]? = some x := ⟨_, List.getElem?_eq_getElem hk2⟩
    have hxl := hlm x (List.mem_of_getElem? hx)
    have F1 := RefWords_spec x (by omega)
    have hwl := words_len x
    have hwm : ∀ y ∈ wordsM x, y.length ≤ x.length := fun y hy => words_mem hy
    by_cases hw0 : wordsM x = []
    · rw [hw0] at F1
      clear hwm hwl
      refine go ?_
      refine ⟨?_, by simp⟩ <;> intros
      exact rnd (k + 1, mt, t) ⟨hk2, sz.up⟩ (by simp only; omega)
    · have hw1 : 0 < (wordsM x).length := List.length_pos_iff.2 hw0
      obtain ⟨c0, hc0⟩ : ∃ c, x[0]? = some c := by
        cases x with
        | nil => exact absurd rfl hw0
        | cons a r => exact ⟨a, rfl⟩
      generalize wordsM x = ws at *
      by_cases h35 : c0 = 35
      · subst h35
        have e35 : (((35 : UInt8).toNat : Nat) : Int) = 35 := rfl
        refine go ?_
        (repeat' (first | exact trivial | apply And.intro | intro _))
        all_goals first
          | (exfalso; first | exact absurd e35 (by assumption) | omega)
          | exact rnd (k + 1, mt, t) ⟨hk2, sz.up⟩ (by simp only; omega)
      · have n35 : ¬ (c0.toNat : Int) = 35 := by intro h; apply h35; apply UInt8.toNat_inj.1; show c0.toNat = 35; omega
        refine go ?_
        refine ⟨?_, by simp⟩ <;> intros
        rename Option Addr => A2
        rename Nat => c2
        clear F1
        refine W.cap (A := A2) (by (focus (with_reducible iterate 40 first | done | exact .here | apply Find.there); done)) fun hcap => ?_
        have F1 := Line_spec e mt t k (by omega) sz ws (by omega) (fun y hy => by have := hwm y hy; omega) A2 c2 hcap (sl Enc.str 9 A2 c2 ws) reads_sl
        refine go ?_
        (repeat' (first | exact trivial | apply And.intro | intro _))
        all_goals (rename {t' : Tab // Sz t' (k + 1)} => t'; rename Tay => mt')
        · exact ret2 (.inl ⟨(k : Int) + 1, by omega, rfl, rfl⟩)
        · exact rnd (k + 1, mt', t'.1) ⟨hk2, t'.2⟩ (by simp only; omega)
  · have hkL : k = L.length := by omega
    subst hkL
    have F1 := Sort_spec e mt t L.length (by omega) sz
    refine go ?_
    refine ⟨?_, by simp⟩ <;> intros
    rename_i mt' t'
    exact ret2 (.inr ⟨e, mt', t'.1, ⟨by have := t'.2.r; omega, by have := t'.2.p; omega, by have := t'.2.m; omega, by have := t'.2.c; omega, by have := t'.2.q; omega, by have := t'.2.s; omega, t'.2.rn, t'.2.pn, t'.2.mn, t'.2.nd, t'.2.it⟩, rfl, rfl⟩)
end Go.Proofs.YtlibnpdbcjgegaaGreat
namespace Go.Proofs.YtlibnpdbcjgegaaGreat
open Go.SL
set_option linter.unusedVariables false
set_option linter.unusedSimpArgs false
set_option maxHeartbeats 8000000
set_option maxRecDepth 20000
theorem word_le {s : Tx} (h : wordB s = true) : s.length ≤ 24 := by
  unfold wordB at h
  simp only [Bool.and_eq_true, decide_eq_true_eq] at h
  exact h.2
theorem bt_good {t : Tab} (g : Good t) : Bt t where
  nr := by have := g.rr.len; rw [List.length_map] at this; omega
  np := by have := g.rp.len; rw [List.length_map] at this; omega
  nm := by have := g.rm.len; rw [List.length_map] at this; omega
  nc := by have := g.rc.len; rw [List.length_map] at this; omega
  nq := by have := g.rq.len; rw [List.length_map] at this; omega
  ns := by have := g.rs.len; rw [List.length_map] at this; omega
  rn x hx := by have := word_le (g.ro x hx).nm; omega
  pn x hx := by have := word_le (g.po x hx).nm; omega
  mn x hx := by have := word_le (g.mo x hx).nm; omega
theorem till_good {t : Tab} (g : Good t) : ∀ s ∈ t.shops, 0 ≤ s.till ∧ s.till ≤ 1099511627776 := fun s hs => by have := (g.so s hs).ti; omega
theorem sml_new {t : Tab} (g : Good t) : Sml (newW t) where
  c := Nat.zero_le _
  t := Nat.zero_le _
  m := by have := (bt_good g).nm; have h := newM_len t.mobs; show (newM t.mobs).length ≤ _; omega
  h := Nat.zero_le _
  l := Nat.zero_le _
  i := by have := (bt_good g).ns; have h := newI_len t.shops; show (newI t.shops).length ≤ _; omega
  d x hx := by cases hx
  g x hx := by cases hx
theorem smt_of {t : Tab} {n : Nat} (h : Sz t n) (hn : n ≤ 1000000) : Smt t := ⟨by have := h.r; omega, by have := h.p; omega, by have := h.m; omega, by have := h.c; omega, by have := h.q; omega, by have := h.s; omega, h.rn, h.pn, h.mn, h.nd, h.it⟩
theorem CutS_spec (s : List UInt8) (n : Nat) (hl : s.length ≤ 9223372036854775807) : Trip Tryz.prog 8 [str s, .int .i64 (n : Int)] [] (fun v Ps => v = str (s.take n) ∧ Ps = []) := by
  refine Trip.of (m := 13) Tryz.func8 rfl rfl rfl ?_
  intro o Rs
  simp only [List.cons_append, List.nil_append, enumFrom]
  refine go ?_
  refine ⟨fun h1 => ?_, by simp⟩
  rw [List.take_of_length_le (by omega)]
theorem EntityNew_spec (s : Tx) (hs : s.length ≤ 9223372036854775807) : Trip Tryz.prog 3 [str s] [] (fun v Ps => v = .bool true ∧ Ps = []) := by
  refine Trip.of (m := 49) Tryz.func3 rfl rfl rfl ?_
  intro o Rs
  simp only [List.cons_append, List.nil_append, enumFrom]
  have F1 := begun16_spec
  have F2 := CutS_spec s 4000 hs
  have hl : (s.take 4000).length ≤ 4000 := by rw [List.length_take]; omega
  generalize s.take 4000 = x at *
  refine go ?_
  refine ⟨?_, by simp⟩ <;> intros
  refine cal (Parse_spec x (by omega)) ?_
  rintro _ _ (⟨k, hk, rfl, rfl⟩ | ⟨e, mt, t, sz, rfl, rfl⟩)
  · simp only [List.nil_append]
    have F3 := NewNil_spec
    refine go ?_
    simp
  simp only [List.cons_append, List.nil_append]
  refine wtb (d := e) (m := mt) (t := t) fun lt => ?_
  refine go ?_
  refine ⟨?_, by simp⟩ <;> intros
  refine cal (Check13_spec e mt t lt (smt_of sz (by omega)) (tb e mt t)) ?_
  rintro _ _ ⟨⟨k, hk⟩, rfl, rfl⟩
  simp only [List.cons_append, List.nil_append]
  by_cases h0 : k = 0
  case neg =>
    have F3 := NewNil_spec
    refine go ?_
    simp
  subst h0
  have g := hk rfl
  have bt := bt_good g
  have F3 := NewP_spec e mt t g lt (till_good g) (tb e mt t)
  have F4 := New_spec e mt t bt lt (till_good g) (tb e mt t)
  refine go ?_
  refine ⟨?_, by simp⟩ <;> intros
  rename_i d m d2 m2
  refine wwl (d := d) (m := m) (t := newW t) fun la => ?_
  refine wwl (d := d2) (m := m2) (t := newW t) fun lb => ?_
  have F5 := EqSame_spec d d2 m m2 (newW t) (sml_new g) (wl d m (newW t)) (wl d2 m2 (newW t)) la lb
  have F6 := May_new d e m mt t g lt (newW t) rfl la (wl d m (newW t)) (tb e mt t)
  have F7 := StartP_spec e mt t (by have := bt.nr; omega) (tb e mt t)
  have F8 := Start_spec e mt t bt (tb e mt t)
  refine go ?_
  simp
end Go.Proofs.YtlibnpdbcjgegaaGreat
