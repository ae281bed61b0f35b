/-
  Walks and laws joined: WdDo WdStep WdMade EnLawF SLArgs EvArg.
-/
import Derived.Test.YtflmbhkjhfmeoaaGreatQ25
import Derived.Test.YtflmbhkjhfmeoaaGreatQ11
import Derived.Test.YtflmbhkjhfmeoaaGreatQ38
import Derived.Test.YtflmbhkjhfmeoaaGreatQ26
import Derived.Test.YtflmbhkjhfmeoaaGreatQ42
import Derived.Test.YtflmbhkjhfmeoaaGreatQ48
import Derived.Test.YtflmbhkjhfmeoaaGreatQ41
import Derived.Test.YtflmbhkjhfmeoaaGreatQ05
import Derived.Test.YtflmbhkjhfmeoaaGreatQ39
import Derived.Test.YtflmbhkjhfmeoaaGreatQ15
import Derived.Test.YtflmbhkjhfmeoaaGreatQ07
import Derived.Test.YtflmbhkjhfmeoaaGreatQ01
import Derived.Deep.Slices
import Derived.OpenShut
set_option linter.unusedVariables false
set_option linter.unusedSimpArgs false
namespace Go.Proofs.YtflmbhkjhfmeoaaGreat
open Go.SL
set_option maxHeartbeats 8000000
set_option maxRecDepth 20000
theorem _root_.Go.SL.C.cut2 {P : Program} {n : Nat} {o : Outer} {Q : Post} {xs : Env} {hs : List HProp} {σ : Type} (I : σ → Prop) (X : σ → Env) (H : σ → List HProp) {id : Nat} {c y : Code} (h1 : C P n o (Exit.inBlock id (Exit.then (fun a w => ∃ s, I s ∧ Ok n (X s) a ∧ Sat o w (H s)) Q)) c xs hs)
    (h2 : ∀ s, I s → C P n o Q y (X s) (H s)) : C P n o (Exit.inBlock id (Exit.then (y.wp P Q) Q)) c xs hs := by
  refine ⟨fun a w ha hw => wp_mono (h1 a w ha hw) ?_⟩
  intro e a' w' hq
  cases e with
  | normal => obtain ⟨s, h0, hx, hh⟩ := hq; exact h2 s h0 a' w' hx hh
  | exit id' =>
    by_cases h : id' = id
    · simp only [Exit.inBlock, if_pos h] at hq ⊢
      obtain ⟨s, h0, hx, hh⟩ := hq; exact h2 s h0 a' w' hx hh
    · simp only [Exit.inBlock, if_neg h] at hq ⊢
      exact hq
  | goto l => exact hq
  | ret => exact hq
  | panic ch => exact hq
  | outgrown => exact hq
theorem findC_len (s : Tx) : (findC s).length ≤ 9 := by
  unfold findC
  split
  · exact Nat.zero_le _
  · split
    · exact Nat.zero_le _
    · rename_i c hc
      have h : ∀ x ∈ cmds, x.length ≤ 9 := by decide
      exact h c (List.mem_of_find?_eq_some hc)
theorem needW_last {cmd : Tx} (h0 : ¬ cmd = [103, 101, 116]) (h1 : ¬ cmd = [100, 114, 111, 112]) (h2 : ¬ cmd = [119, 101, 97, 114]) (h3 : ¬ cmd = [114, 101, 109, 111, 118, 101]) (h4 : ¬ cmd = [107, 105, 108, 108]) (h5 : ¬ cmd = [98, 117, 121]) (h6 : ¬ cmd = [115, 101, 108, 108]) (h7 : ¬ cmd = [99, 114, 97, 102, 116]) (h8 : ¬ cmd = [100, 101, 112, 111, 115, 105, 116]) (h9 : ¬ cmd = [119, 105, 116, 104, 100, 114, 97, 119]) (h10 : ¬ cmd = [104, 111, 117, 115, 101]) : needW.contains cmd = (cmd == [115, 97, 121]) := by
  simp only [needW, List.contains_cons, List.contains_nil, Bool.or_false]
  rw [show (cmd == [103, 101, 116]) = false from by simpa using h0, Bool.false_or]
  rw [show (cmd == [100, 114, 111, 112]) = false from by simpa using h1, Bool.false_or]
  rw [show (cmd == [119, 101, 97, 114]) = false from by simpa using h2, Bool.false_or]
  rw [show (cmd == [114, 101, 109, 111, 118, 101]) = false from by simpa using h3, Bool.false_or]
  rw [show (cmd == [107, 105, 108, 108]) = false from by simpa using h4, Bool.false_or]
  rw [show (cmd == [98, 117, 121]) = false from by simpa using h5, Bool.false_or]
  rw [show (cmd == [115, 101, 108, 108]) = false from by simpa using h6, Bool.false_or]
  rw [show (cmd == [99, 114, 97, 102, 116]) = false from by simpa using h7, Bool.false_or]
  rw [show (cmd == [100, 101, 112, 111, 115, 105, 116]) = false from by simpa using h8, Bool.false_or]
  rw [show (cmd == [119, 105, 116, 104, 100, 114, 97, 119]) = false from by simpa using h9, Bool.false_or]
  rw [show (cmd == [104, 111, 117, 115, 101]) = false from by simpa using h10, Bool.false_or]
theorem need_2 {cmd : Tx} (h : needW.contains cmd = false) (h2 : cmd = [103, 105, 118, 101] ∨ cmd = [111, 102, 102, 101, 114] ∨ cmd = [98, 105, 100] ∨ cmd = [116, 101, 108, 108]) : needN cmd = 2 := by
  rcases h2 with rfl | rfl | rfl | rfl <;> rfl
theorem need_0 {cmd : Tx} (h : needW.contains cmd = false) (h0 : ¬ cmd = [103, 105, 118, 101]) (h1 : ¬ cmd = [111, 102, 102, 101, 114]) (h2 : ¬ cmd = [98, 105, 100]) (h3 : ¬ cmd = [116, 101, 108, 108]) : needN cmd = 0 := by
  unfold needN
  rw [h]
  have e : needW2.contains cmd = false := by
    simp only [needW2, List.contains_cons, List.contains_nil, Bool.or_false]
    rw [show (cmd == [103, 105, 118, 101]) = false from by simpa using h0, show (cmd == [111, 102, 102, 101, 114]) = false from by simpa using h1, show (cmd == [98, 105, 100]) = false from by simpa using h2, show (cmd == [116, 101, 108, 108]) = false from by simpa using h3]; rfl
  rw [e]; rfl
theorem dirI_hit {cmd : Tx} {j : Nat} (hj : j < 6) (h : cmd = dirT j) : dirI cmd = some j := by
  obtain rfl | rfl | rfl | rfl | rfl | rfl : j = 0 ∨ j = 1 ∨ j = 2 ∨ j = 3 ∨ j = 4 ∨ j = 5 := by omega
  all_goals (subst h; rfl)
theorem dirI_none {cmd : Tx} (h : ∀ i, i < 6 → ¬ cmd = dirT i) : dirI cmd = none := by
  unfold dirI
  rw [List.findIdx?_eq_none_iff]
  intro x hx
  simp only [List.mem_cons, List.not_mem_nil, or_false] at hx
  rw [beq_eq_false_iff_ne]
  rcases hx with rfl | rfl | rfl | rfl | rfl | rfl
  · exact fun e => h 0 (by decide) e.symm
  · exact fun e => h 1 (by decide) e.symm
  · exact fun e => h 2 (by decide) e.symm
  · exact fun e => h 3 (by decide) e.symm
  · exact fun e => h 4 (by decide) e.symm
  · exact fun e => h 5 (by decide) e.symm
section
variable (t d e : Nat) (m : Lay) (w : Wld) (mt : Tay) (tab : Tab) (S : List Sy) (u : Int)
theorem Do_spec {s K : Nat} (g : Good tab) (h : Iv tab s K w) (hs : s ≤ 1000) (hK : K ≤ 90000) (lm : Laid m w) (lt : TLaid mt tab) (R : HProp) [hr : RT R e mt tab] (name line : Tx) (hn : name.length ≤ 1000) (hll : line.length ≤ 1000) (b0 : Nat) (A : Option Addr) (cc : Nat) (L : List Int) (hok : ∀ n ∈ L, -9223372036854775808 ≤ n ∧ n ≤ 9223372036854775807) (Q : HProp) (hQ : Reads Q E64 A L) (hl : L.length ≤ 100000) (hS : S.length ≤ 10000) :
    Trip Tryz.prog 110 [.pointer (some ⟨t, 0, none⟩), str name, str line, .pointer (some ⟨b0, 0, none⟩)] [ts t d e S u, wl d m w, R, blk b0 46 [.slice A L.length cc, .int .i64 0], Q]
      (fun v Ps => ∃ m', v = .tuple #[] ∧ Ps = [ts t d e (S ++ (doA tab L w name line).1.2) u, wl d m' (doA tab L w name line).1.1, R, blk b0 46 [.slice A L.length cc, .int .i64 (((doA tab L w name line).2 : Nat) : Int)], Q]) := by
  refine Trip.of (m := 112) Tryz.func110 rfl rfl rfl ?_
  intro o Rs
  simp only [List.cons_append, List.nil_append, enumFrom]
  unfold doA
  have bw := iv_bw h hs hK
  have bt := bt_of g
  have F1 := on_spec t d e m w S u bw lm name
  have F2 := RefWords_spec line (by omega)
  have hwl := words_len line
  have hwm : ∀ x ∈ wordsM line, x.length ≤ 1000 := fun x hx => Nat.le_trans (words_mem hx) hll
  generalize wordsM line = ws at *
  rcases hc : onI w name with _ | c
  · rw [hc] at F1
    simp only [iv] at F1 ⊢
    refine go ?_
    refine ⟨?_, by simp⟩ <;> intros
    exact ret0 (Ps := [ts t d e (S ++ []) u, wl d m w, R, blk b0 46 [.slice A L.length cc, .int .i64 0], Q]) ⟨m, rfl, rfl⟩ (hh := by rw [List.append_nil]; (exact ent_))
  obtain ⟨x, hx, hon, hnm⟩ := on_get hc
  rw [hc] at F1
  simp only [iv] at F1 ⊢
  cases ws with
  | nil =>
    have hz : ([] : List Tx).length = 0 := rfl
    refine go ?_
    refine ⟨?_, by simp⟩ <;> intros
    exact ret0 (Ps := [ts t d e (S ++ []) u, wl d m w, R, blk b0 46 [.slice A L.length cc, .int .i64 0], Q]) ⟨m, rfl, rfl⟩ (hh := by rw [List.append_nil]; (exact ent_))
  | cons w0 rest =>
    have hlen : (w0 :: rest).length = rest.length + 1 := rfl
    have hw0 := hwm w0 List.mem_cons_self
    have F3 := FindC_spec w0 (by omega)
    have hfl := findC_len w0
    simp only
    have hi0 : (w0 :: rest)[0]? = some w0 := rfl
    have hw1 : (rest.getD 0 []).length ≤ 1000 := by
      cases rest with
      | nil => exact Nat.zero_le _
      | cons y r => exact hwm y (List.mem_cons_of_mem _ List.mem_cons_self)
    have hw2 : (rest.getD 1 []).length ≤ 1000 := by
      cases rest with
      | nil => exact Nat.zero_le _
      | cons y r => cases r with
        | nil => exact Nat.zero_le _
        | cons z r => exact hwm z (List.mem_cons_of_mem _ (List.mem_cons_of_mem _ List.mem_cons_self))
    generalize findC w0 = cmd at *
    by_cases hcm : cmd = []
    · rw [if_pos hcm]
      subst hcm
      have F4 := say_spec t d e S u name [72, 117, 104, 63] (by omega)
      refine go ?_
      refine ⟨?_, by simp⟩ <;> intros
      exact ret0 (Ps := [ts t d e (S ++ [(name, [72, 117, 104, 63])]) u, wl d m w, R, blk b0 46 [.slice A L.length cc, .int .i64 0], Q]) ⟨m, rfl, rfl⟩
    rw [if_neg hcm]
    have ncm : ¬ (cmd == []) = true := by simpa using hcm
    refine gor ?_
    refine ⟨?_, by simp⟩ <;> intros
    rename Option Addr => A1
    rename Nat => c1
    refine C.join (σ := Unit) (fun _ => True) (fun _ => [(0, .pointer (some ⟨t, 0, none⟩)), (1, str name), (2, str line), (3, .pointer (some ⟨b0, 0, none⟩)), (8, .int .i64 (c : Int)), (9, .slice A1 (w0 :: rest).length c1)]) (fun _ => sl Enc.str 9 A1 c1 (w0 :: rest) :: ts t d e S u :: wl d m w :: R :: blk b0 46 [.slice A L.length cc, .int .i64 0] :: Q :: Rs) ?_ ?_
    · refine go ?_
      refine ⟨?_, by simp⟩ <;> intros
      exact jn () trivial
    rintro _ _
    clear F1 F2
    refine gor ?_
    refine ⟨?_, by simp⟩ <;> intros
    refine C.join (σ := Unit) (fun _ => True) (fun _ => [(0, .pointer (some ⟨t, 0, none⟩)), (1, str name), (2, str line), (3, .pointer (some ⟨b0, 0, none⟩)), (8, .int .i64 (c : Int)), (9, .slice A1 (w0 :: rest).length c1), (10, str cmd)]) (fun _ => sl Enc.str 9 A1 c1 (w0 :: rest) :: ts t d e S u :: wl d m w :: R :: blk b0 46 [.slice A L.length cc, .int .i64 0] :: Q :: Rs) ?_ ?_
    · refine go ?_
      (repeat' (first | exact trivial | apply And.intro | intro _))
      all_goals first
        | (exfalso; first | exact ncm (by assumption) | exact hcm (by assumption))
        | exact jn () trivial
    rintro _ _
    clear F3
    refine gor ?_
    refine ⟨?_, by simp⟩ <;> intros
    refine C.join (σ := Nat) (fun n => n = needN cmd) (fun n => [(0, .pointer (some ⟨t, 0, none⟩)), (1, str name), (2, str line), (3, .pointer (some ⟨b0, 0, none⟩)), (8, .int .i64 (c : Int)), (9, .slice A1 (w0 :: rest).length c1), (10, str cmd), (11, .int .i64 (n : Int))]) (fun _ => sl Enc.str 9 A1 c1 (w0 :: rest) :: ts t d e S u :: wl d m w :: R :: blk b0 46 [.slice A L.length cc, .int .i64 0] :: Q :: Rs) ?_ ?_
    · refine gor ?_
      refine ⟨?_, by simp⟩ <;> intros
      refine C.join (σ := Bool) (fun b => b = needW.contains cmd) (fun b => [(0, .pointer (some ⟨t, 0, none⟩)), (1, str name), (2, str line), (3, .pointer (some ⟨b0, 0, none⟩)), (8, .int .i64 (c : Int)), (9, .slice A1 (w0 :: rest).length c1), (10, str cmd), (11, .int .i64 0), (36, str cmd), (37, .bool b)]) (fun _ => sl Enc.str 9 A1 c1 (w0 :: rest) :: ts t d e S u :: wl d m w :: R :: blk b0 46 [.slice A L.length cc, .int .i64 0] :: Q :: Rs) ?_ ?_
      · refine go ?_
        (repeat' (first | exact trivial | apply And.intro | intro _))
        all_goals first
          | exact jn true (by rw [show cmd = [103, 101, 116] from by assumption]; rfl)
          | exact jn true (by rw [show cmd = [100, 114, 111, 112] from by assumption]; rfl)
          | exact jn true (by rw [show cmd = [119, 101, 97, 114] from by assumption]; rfl)
          | exact jn true (by rw [show cmd = [114, 101, 109, 111, 118, 101] from by assumption]; rfl)
          | exact jn true (by rw [show cmd = [107, 105, 108, 108] from by assumption]; rfl)
          | exact jn true (by rw [show cmd = [98, 117, 121] from by assumption]; rfl)
          | exact jn true (by rw [show cmd = [115, 101, 108, 108] from by assumption]; rfl)
          | exact jn true (by rw [show cmd = [99, 114, 97, 102, 116] from by assumption]; rfl)
          | exact jn true (by rw [show cmd = [100, 101, 112, 111, 115, 105, 116] from by assumption]; rfl)
          | exact jn true (by rw [show cmd = [119, 105, 116, 104, 100, 114, 97, 119] from by assumption]; rfl)
          | exact jn true (by rw [show cmd = [104, 111, 117, 115, 101] from by assumption]; rfl)
          | exact jn (cmd == [115, 97, 121]) (needW_last (by assumption) (by assumption) (by assumption) (by assumption) (by assumption) (by assumption) (by assumption) (by assumption) (by assumption) (by assumption) (by assumption)).symm
      rintro b hb
      cases b with
      | true =>
        have hN : (1 : Nat) = needN cmd := by unfold needN; rw [← hb]; rfl
        refine go ?_
        refine ⟨?_, by simp⟩ <;> intros
        exact jn 1 hN
      | false =>
        refine go ?_
        (repeat' (first | exact trivial | apply And.intro | intro _))
        all_goals first
          | exact jn 2 (need_2 hb.symm (by first | exact .inl (by assumption) | exact .inr (.inl (by assumption)) | exact .inr (.inr (.inl (by assumption))) | exact .inr (.inr (.inr (by assumption))))).symm
          | exact jn 0 (need_0 hb.symm (by assumption) (by assumption) (by assumption) (by assumption)).symm
    rintro n hn0
    have hnn : n ≤ 2 := by
      rw [hn0]; unfold needN; split
      · omega
      · split <;> omega
    rw [← hn0]
    clear hn0
    have F1 := say_spec t d e S u name [87, 104, 97, 116, 63] (by omega)
    by_cases hlt : rest.length < n
    · rw [if_pos hlt]
      refine go ?_
      refine ⟨?_, by simp⟩ <;> intros
      exact ret0 (Ps := [ts t d e (S ++ whatS name) u, wl d m w, R, blk b0 46 [.slice A L.length cc, .int .i64 0], Q]) ⟨m, rfl, rfl⟩
    rw [if_neg hlt]
    refine go ?_
    refine ⟨?_, by simp⟩ <;> intros
    refine C.cut2 (σ := Unit) (fun _ => ∀ i, i < 6 → ¬ cmd = dirT i) (fun _ => [(0, .pointer (some ⟨t, 0, none⟩)), (1, str name), (2, str line), (3, .pointer (some ⟨b0, 0, none⟩)), (8, .int .i64 (c : Int)), (9, .slice A1 (w0 :: rest).length c1), (10, str cmd)]) (fun _ => sl Enc.str 9 A1 c1 (w0 :: rest) :: ts t d e S u :: wl d m w :: R :: blk b0 46 [.slice A L.length cc, .int .i64 0] :: Q :: Rs) ?_ ?_
    · refine loop (σ := Nat) (fun j => j ≤ 6 ∧ ∀ i, i < j → ¬ cmd = dirT i) (fun j => [(0, .pointer (some ⟨t, 0, none⟩)), (1, str name), (2, str line), (3, .pointer (some ⟨b0, 0, none⟩)), (8, .int .i64 (c : Int)), (9, .slice A1 (w0 :: rest).length c1), (10, str cmd), (12, .int .i64 (j : Int))]) (fun _ => sl Enc.str 9 A1 c1 (w0 :: rest) :: ts t d e S u :: wl d m w :: R :: blk b0 46 [.slice A L.length cc, .int .i64 0] :: Q :: Rs) (fun j => 6 - j) 0 ⟨by omega, fun i hi => absurd hi (Nat.not_lt_zero i)⟩ ?_
      rintro j ⟨hj1, hj2⟩
      clear F1
      by_cases hj : j < 6
      · have F2 := Dir_spec j hj
        by_cases hcd : cmd = dirT j
        · unfold cmdA
          rw [dirI_hit hj hcd]
          have F3 := Go_spec t d e m w mt tab S u bw bt lm R name (j : Int) (by omega)
          rw [← hcd] at F2
          simp only
          generalize goA tab w name (j : Int) = r at *
          clear hcd
          refine go ?_
          refine ⟨?_, by simp⟩ <;> intros
          exact ret0 (Ps := [ts t d e (S ++ r.2) u, wl d m r.1, R, blk b0 46 [.slice A L.length cc, .int .i64 0], Q]) ⟨m, rfl, rfl⟩
        · have hj3 : ∀ i, i < j + 1 → ¬ cmd = dirT i := fun i hi => by
            rcases Nat.lt_succ_iff_lt_or_eq.1 hi with h | h
            · exact hj2 i h
            · rw [h]; exact hcd
          have ncd : ¬ (cmd == dirT j) = true := by simpa using hcd
          generalize dirT j = dj at F2 hcd ncd
          refine go ?_
          (repeat' (first | exact trivial | apply And.intro | intro _))
          all_goals first
            | (exfalso; first | exact hcd (by assumption) | exact ncd (by assumption) | omega)
            | exact rnd (j + 1) ⟨by omega, hj3⟩ (by omega)
      have hj6 : j = 6 := by omega
      subst hj6
      refine go ?_
      refine ⟨?_, by simp⟩ <;> intros
      exact jn () hj2
    rintro _ hj2
    clear F1
    unfold cmdA
    rw [dirI_none hj2]
    simp only
    clear hj2
    obtain ⟨a, ha⟩ : ∃ a, a = rest.getD 0 [] := ⟨_, rfl⟩
    obtain ⟨b, hb⟩ : ∃ b, b = rest.getD 1 [] := ⟨_, rfl⟩
    rw [← ha] at hw1 ⊢
    rw [← hb] at hw2 ⊢
    refine gor ?_
    refine ⟨?_, by simp⟩ <;> intros
    refine C.join (σ := Unit) (fun _ => True) (fun _ => [(0, .pointer (some ⟨t, 0, none⟩)), (1, str name), (2, str line), (3, .pointer (some ⟨b0, 0, none⟩)), (8, .int .i64 (c : Int)), (9, .slice A1 (w0 :: rest).length c1), (10, str cmd), (13, str a), (14, str [])]) (fun _ => sl Enc.str 9 A1 c1 (w0 :: rest) :: ts t d e S u :: wl d m w :: R :: blk b0 46 [.slice A L.length cc, .int .i64 0] :: Q :: Rs) ?_ ?_
    · cases rest with
      | nil =>
        rw [show a = [] from ha]
        have hz : ([w0] : List Tx).length = 1 := rfl
        refine go ?_
        refine ⟨?_, by simp⟩ <;> intros
        exact jn () trivial
      | cons y r =>
        rw [show a = y from ha]
        have hz : (w0 :: y :: r).length = r.length + 2 := rfl
        have hi1 : (w0 :: y :: r)[1]? = some y := rfl
        refine go ?_
        refine ⟨?_, by simp⟩ <;> intros
        exact jn () trivial
    rintro _ _
    refine gor ?_
    refine ⟨?_, by simp⟩ <;> intros
    refine C.join (σ := Unit) (fun _ => True) (fun _ => [(0, .pointer (some ⟨t, 0, none⟩)), (1, str name), (2, str line), (3, .pointer (some ⟨b0, 0, none⟩)), (8, .int .i64 (c : Int)), (9, .slice A1 (w0 :: rest).length c1), (10, str cmd), (13, str a), (14, str b)]) (fun _ => sl Enc.str 9 A1 c1 (w0 :: rest) :: ts t d e S u :: wl d m w :: R :: blk b0 46 [.slice A L.length cc, .int .i64 0] :: Q :: Rs) ?_ ?_
    · cases rest with
      | nil =>
        rw [show b = [] from hb]
        have hz : ([w0] : List Tx).length = 1 := rfl
        refine go ?_
        refine ⟨?_, by simp⟩ <;> intros
        exact jn () trivial
      | cons y r => cases r with
        | nil =>
          rw [show b = [] from hb]
          have hz : ([w0, y] : List Tx).length = 2 := rfl
          refine go ?_
          refine ⟨?_, by simp⟩ <;> intros
          exact jn () trivial
        | cons z r =>
          rw [show b = z from hb]
          have hz : (w0 :: y :: z :: r).length = r.length + 3 := rfl
          have hi1 : (w0 :: y :: z :: r)[2]? = some z := rfl
          refine go ?_
          refine ⟨?_, by simp⟩ <;> intros
          exact jn () trivial
    rintro _ _
    clear ha hb hi0
    have F1 := body_spec t d e m w mt tab S u g h hs hK lm R name cmd a b hn (by omega) (by omega) b0 A cc L hok Q hQ hl (by omega)
    cases hbw : bodyW.contains cmd with
    | true =>
      rw [hbw] at F1
      simp only [if_true]
      generalize bodyA tab L w name cmd a b = r at *
      clear hbw
      refine go ?_
      refine ⟨?_, by simp⟩ <;> intros
      exact ret0 (Ps := [ts t d e (S ++ r.1.2) u, wl d m r.1.1, R, blk b0 46 [.slice A L.length cc, .int .i64 ((r.2 : Nat) : Int)], Q]) ⟨m, rfl, rfl⟩
    | false =>
      rw [hbw, body_none hbw] at F1
      simp only [List.append_nil] at F1
      simp only [Bool.false_eq_true, if_false]
      cases hmw : moneyW.contains cmd with
      | true =>
        have F2 := money_spec t d e m w mt tab S u g h hs hK lm lt R name cmd a b (rest.length + 1) c hmw (by omega) hc hn (by omega) (by omega) (by omega)
        simp only [if_true]
        generalize moneyA tab w name cmd a b (rest.length + 1) c = r at *
        clear hbw hmw
        rw [hlen]
        refine go ?_
        refine ⟨?_, by simp⟩ <;> intros
        rename Lay => m2
        exact ret0 (Ps := [ts t d e (S ++ r.2) u, wl d m2 r.1, R, blk b0 46 [.slice A L.length cc, .int .i64 ((0 : Nat) : Int)], Q]) ⟨m2, rfl, rfl⟩
      | false =>
        have F2 := money_none t d e m S u (w := w) R name cmd a b (rest.length + 1) hmw
        have F3 := talk_spec t d e m w S u bw lm name cmd a line c x hx hn (by omega) hll (by omega)
        simp only [Bool.false_eq_true, if_false]
        generalize talkA w name cmd a line c = r at *
        clear hbw hmw
        rw [hlen]
        refine go ?_
        refine ⟨?_, by simp⟩ <;> intros
        exact ret0 (Ps := [ts t d e (S ++ r.2) u, wl d m r.1, R, blk b0 46 [.slice A L.length cc, .int .i64 ((0 : Nat) : Int)], Q]) ⟨m, rfl, rfl⟩
end
end Go.Proofs.YtflmbhkjhfmeoaaGreat
namespace Go.Proofs.YtflmbhkjhfmeoaaGreat
open Go.SL
set_option maxHeartbeats 8000000
set_option maxRecDepth 20000
section
variable (t d e : Nat) (m : Lay) (w : Wld) (mt : Tay) (tab : Tab) (S : List Sy) (u : Int)
theorem step_cmd {s K : Nat} (g : Good tab) (h : Iv tab s K w) (hs : s ≤ 1000) (hK : K ≤ 90000) (lm : Laid m w) (lt : TLaid mt tab) (R : HProp) [hr : RT R e mt tab] (nm tx : Tx) (D : Option Addr) (dc : List Int) (mm : Nat) (hnl : nm.length ≤ 1000) (htl : tx.length ≤ 1000) (hok : ∀ n ∈ dc, -9223372036854775808 ≤ n ∧ n ≤ 9223372036854775807) (Q : HProp) (hQ : Reads Q E64 D dc) (hl : dc.length ≤ 100000) (hS : S.length ≤ 10000) :
    Trip Tryz.prog 51 [.pointer (some ⟨t, 0, none⟩), evV 4 nm tx D dc.length mm] [ts t d e S u, wl d m w, R, Q] (fun v Ps => ∃ m' u', v = .tuple #[] ∧ Ps = [ts t d e (S ++ (doA tab dc w nm tx).1.2) u', wl d m' (doA tab dc w nm tx).1.1, R, Q]) := by
  refine Trip.of (m := 234) Tryz.func51 rfl rfl rfl ?_
  intro o Rs
  simp only [List.cons_append, List.nil_append, enumFrom]
  haveI : Plan 1 [13, 15] [0, 1, 2, 3, 4, 5, 6, 7] := ⟨⟩
  haveI : Plan 5 [49, 52, 55, 57, 61] [0, 1, 2, 3, 4, 5, 6, 8, 9, 10, 11, 12, 13, 14, 15, 7, 16, 17, 18, 19, 20] := ⟨⟩
  haveI : Plans 9 [89, 91, 95] [9, 10, 11, 12] [[0, 1, 2, 3, 4, 5, 6, 7, 8, 9, 10, 11, 12], [0, 1, 2, 3, 4, 5, 6, 7, 8, 10, 9, 11, 12]] := ⟨⟩
  haveI : Plan 17 [151, 153] [0, 1, 2, 3, 4, 5, 6, 7, 8] := ⟨⟩
  haveI : Plan 18 [162, 165, 169, 171, 173] [0, 1, 2, 3, 4, 5, 6, 7, 8, 9, 10, 11, 12, 13, 14, 15, 16, 17, 18] := ⟨⟩
  have bw := iv_bw h hs hK
  have b1 := bw.nc
  have F1 := Char_spec d m w nm (by omega) lm (wl d m w)
  refine goW ?_
  (repeat' (first | exact trivial | apply And.intro | intro _))
  rename_i b1' b2
  refine cal (Do_spec t d e m w mt tab S u g h hs hK lm lt R nm tx hnl htl b2 D mm dc hok Q hQ hl hS) ?_
  rintro _ _ ⟨m', rfl, rfl⟩
  simp only [List.cons_append, List.nil_append]
  generalize doA tab dc w nm tx = r at *
  clear F1 h g
  refine W.nil (E.then_normal ?_)
  refine copen (ts t d e (S ++ r.1.2) u) fun p _ => ?_
  simp only [List.cons_append, List.nil_append]
  refine goW ?_
  (repeat' (first | exact trivial | apply And.intro | intro _))
  all_goals (
    refine efold (ts t d e (S ++ r.1.2) ((r.2 : Nat) : Int)) p trivial ?_
    exact ret0 (Ps := [ts t d e (S ++ r.1.2) ((r.2 : Nat) : Int), wl d m' r.1.1, R, Q]) ⟨m', _, rfl, rfl⟩)
end
end Go.Proofs.YtflmbhkjhfmeoaaGreat
namespace Go.Proofs.YtflmbhkjhfmeoaaGreat
open Go.SL
set_option maxHeartbeats 8000000
set_option maxRecDepth 20000
theorem reads_take {α : Type} {R : HProp} {E : Enc α} {A : Option Addr} {l : List α} (n : Nat) (h : Reads R E A l) : Reads R E A (l.take n) := by
  intro f w hf hw
  rcases h f w hf hw with h0 | ⟨g, off, hA, hc⟩
  · subst h0; exact .inl List.take_nil
  · refine .inr ⟨g, off, hA, fun i v hv => hc i v ?_⟩
    have := E.all_append (l.take n) (l.drop n)
    rw [List.take_append_drop] at this
    rw [this, List.getElem?_append_left (List.getElem?_eq_some_iff.1 hv).1]
    exact hv
theorem trip_frame {P : Program} {f : FuncId} {args : List Value} {Pre : List HProp} {q : Value → List HProp → Prop} (F : List HProp) (h : Trip P f args Pre q) : Trip P f args (Pre ++ F) (fun v Ps => ∃ Ps', q v Ps' ∧ Ps = Ps' ++ F) :=
  ⟨fun o w Rs hw => (h.run o w (F ++ Rs) (by rw [← List.append_assoc]; exact hw)).mono fun e w' ⟨v, Ps, h1, h2, h3⟩ => ⟨v, Ps ++ F, h1, ⟨Ps, h2, rfl⟩, by rw [List.append_assoc]; exact h3⟩⟩
theorem trip_sub {P : Program} {f : FuncId} {args : List Value} {Pre : List HProp} {q q' : Value → List HProp → Prop} (h : Trip P f args Pre q) (hq : ∀ v Ps, q v Ps → q' v Ps) : Trip P f args Pre q' :=
  ⟨fun o w Rs hw => (h.run o w Rs hw).mono fun e w' ⟨v, Ps, h1, h2, h3⟩ => ⟨v, Ps, h1, hq _ _ h2, h3⟩⟩
@[reducible] def Ev : Enc (Evt × PA) := ⟨4, fun p => [.int .i64 p.1.kind, str p.1.name, str p.1.text, .slice p.2.1 p.1.dice.length p.2.2], fun _ => rfl, fun p => oneL (by rfl), by decide⟩
instance : TyEnc Tryz.prog 75 Ev := ⟨⟩
structure Evs (B : HProp) (A : Option Addr) (es : List Evt) (hd : List PA) : Prop where
  rd : Reads B Ev A (es.zip hd)
  ln : hd.length = es.length
  di : ∀ p ∈ es.zip hd, Reads B E64 p.2.1 p.1.dice
  cp : ∀ p ∈ es.zip hd, p.1.dice.length ≤ p.2.2
  ok : ∀ e ∈ es, ∀ n ∈ e.dice, -9223372036854775808 ≤ n ∧ n ≤ 9223372036854775807
def cutE (e : Evt) : Evt := ⟨e.kind, e.name.take 40, e.text.take 130, e.dice.take 20⟩
def madeS (w : Wld) (e : Evt) : Wld := (stepA baseT w (cutE e)).1
def madeW (es : List Evt) : Wld := (es.take 60).foldl madeS (newW baseT)
theorem num_ok (q : Tx) : (numM q).1 ≤ 1099511627776 := (num_range q).2
theorem cutE_len (e : Evt) : (cutE e).name.length ≤ 1000 := by
  show (e.name.take 40).length ≤ 1000
  rw [List.length_take]; omega
theorem mades_iv : ∀ (es : List Evt) {s K : Nat} {w : Wld}, Iv baseT s K w → Iv baseT (s + es.length) (K + 100 * es.length) (es.foldl madeS w)
  | [], s, K, w, h => h
  | e :: es, s, K, w, h => by
    have h1 := iv_step base_good h num_ok (cutE e) (cutE_len e)
    have h2 := mades_iv es h1
    rw [List.foldl_cons, List.length_cons]
    exact h2.mono (by omega) (by omega)
theorem made_iv (es : List Evt) : Iv baseT 60 6100 (madeW es) := by
  have h := mades_iv (es.take 60) (iv_newW base_good base_till)
  rw [List.length_take] at h
  exact h.mono (by omega) (by omega)
section
variable (t d e : Nat) (m : Lay) (w : Wld) (mt : Tay) (tab : Tab) (S : List Sy) (u : Int)
theorem Step_spec {s K : Nat} (g : Good tab) (h : Iv tab s K w) (hs : s ≤ 1000) (hK : K ≤ 50000) (lm : Laid m w) (lt : TLaid mt tab) (R : HProp) [hr : RT R e mt tab] (k : Int) (nm tx : Tx) (D : Option Addr) (dc : List Int) (mm : Nat) (hnl : nm.length ≤ 1000) (htl : tx.length ≤ 1000) (hok : ∀ n ∈ dc, -9223372036854775808 ≤ n ∧ n ≤ 9223372036854775807) (Q : HProp) (hQ : Reads Q E64 D dc) (hl : dc.length ≤ 100000) (hS : S.length ≤ 1000) :
    Trip Tryz.prog 51 [.pointer (some ⟨t, 0, none⟩), evV k nm tx D dc.length mm] [ts t d e S u, wl d m w, R, Q] (fun v Ps => ∃ m' u', v = .tuple #[] ∧ Ps = [ts t d e (S ++ (stepA tab w ⟨k, nm, tx, dc⟩).2) u', wl d m' (stepA tab w ⟨k, nm, tx, dc⟩).1, R, Q]) := by
  have bw := iv_bw h hs (by omega)
  have bt := bt_of g
  have hmi : -4611686018427387904 ≤ w.minted ∧ w.minted ≤ 4611686018427387904 := by have := h.w0.mi; omega
  by_cases h1 : k = 1
  · subst h1
    refine trip_sub (trip_frame [Q] (step_new t d e m w mt tab S u bw bt lm R nm tx D dc mm hnl htl hmi)) ?_
    rintro v _ ⟨Ps, ⟨m', rfl, rfl⟩, rfl⟩
    exact ⟨m', u, rfl, by rw [show stepA tab w ⟨1, nm, tx, dc⟩ = (newA tab w nm tx, []) from rfl, List.append_nil]; rfl⟩
  by_cases h2 : k = 2
  · subst h2
    refine trip_sub (trip_frame [Q] (step_on t d e m w mt tab S u bw bt lm R nm tx D dc mm hnl (by omega))) ?_
    rintro v _ ⟨Ps, ⟨rfl, rfl⟩, rfl⟩
    exact ⟨m, u, rfl, rfl⟩
  by_cases h3 : k = 3
  · subst h3
    refine trip_sub (trip_frame [R, Q] (step_off t d e m w tab S u bw lm nm tx D dc mm hnl (by omega))) ?_
    rintro v _ ⟨Ps, ⟨rfl, rfl⟩, rfl⟩
    exact ⟨m, u, rfl, rfl⟩
  by_cases h4 : k = 4
  · subst h4
    refine trip_sub (step_cmd t d e m w mt tab S u g h hs (by omega) lm lt R nm tx D dc mm hnl htl hok Q hQ hl (by omega)) ?_
    rintro v _ ⟨m', u', rfl, rfl⟩
    exact ⟨m', u', rfl, rfl⟩
  by_cases h5 : k = 5
  · subst h5
    refine trip_sub (step_tick t d e m w mt tab S u g h hs hK lm R nm tx D dc mm hok Q hQ hl (by omega)) ?_
    rintro v _ ⟨m', rfl, rfl⟩
    exact ⟨m', u, rfl, rfl⟩
  by_cases h6 : k = 6
  · subst h6
    refine trip_sub (trip_frame [R, Q] (step_boot t d e m w S u bw lm nm tx D dc mm)) ?_
    rintro v _ ⟨Ps, ⟨rfl, rfl⟩, rfl⟩
    exact ⟨m, u, rfl, by rw [show stepA tab w ⟨6, nm, tx, dc⟩ = (bootA w, []) from rfl, List.append_nil]; rfl⟩
  refine trip_sub (trip_frame [R, Q] (step_none t d e m w S u bw lm k nm tx D dc mm (by omega))) ?_
  rintro v _ ⟨Ps, ⟨rfl, rfl⟩, rfl⟩
  have e0 : stepA tab w ⟨k, nm, tx, dc⟩ = (w, []) := by
    unfold stepA
    simp only [h1, h2, h3, h4, h5, h6, if_false]
  exact ⟨m, u, rfl, by rw [e0, List.append_nil]; rfl⟩
end
theorem Made_spec (es : List Evt) (hd : List PA) (A : Option Addr) (c : Nat) (B : HProp) (hE : Evs B A es hd) (hl : es.length ≤ 9223372036854775807) :
    Trip Tryz.prog 8 [.slice A es.length c] [B] (fun v Ps => ∃ d m, v = .pointer (some ⟨d, 0, none⟩) ∧ Ps = [B, wl d m (madeW es)]) := by
  refine Trip.of (m := 34) Tryz.func8 rfl rfl rfl ?_
  intro o Rs
  simp only [List.cons_append, List.nil_append, enumFrom]
  have F1 := Base_spec
  refine go ?_
  refine ⟨?_, by simp⟩ <;> intros
  rename_i e mt
  refine wtb (d := e) (m := mt) (t := baseT) fun lt => ?_
  have F2 := New_spec e mt baseT (bt_of base_good) lt base_till (tb e mt baseT)
  refine go ?_
  refine ⟨?_, by simp⟩ <;> intros
  rename_i d m e2 mt2 b
  clear F1 F2
  have ze : es.length = (es.zip hd).length := by rw [List.length_zip, hE.ln, Nat.min_self]
  refine cfold (ts b d e2 [] 0) ((none, 0) : PA) trivial ?_
  refine loop (σ := Nat × Wld × Lay × Int) (fun s => s.1 ≤ es.length ∧ s.1 ≤ 60 ∧ s.2.1 = (es.take s.1).foldl madeS (newW baseT)) (fun s => [(0, .slice A es.length c), (3, .pointer (some ⟨b, 0, none⟩)), (4, .int .i64 (s.1 : Int))]) (fun s => ts b d e2 [] s.2.2.2 :: wl d s.2.2.1 s.2.1 :: tb e2 mt2 baseT :: B :: Rs) (fun s => es.length - s.1) (0, newW baseT, m, 0) ⟨Nat.zero_le _, by omega, rfl⟩ ?_
  rintro ⟨k, w1, m1, u1⟩ ⟨h1, h2, h3⟩
  simp only at h1 h2 h3 ⊢
  have hiv : Iv baseT 60 6100 w1 := by
    have h := mades_iv (es.take k) (iv_newW base_good base_till)
    rw [List.length_take, ← h3] at h
    exact h.mono (by omega) (by omega)
  refine cwl (d := d) (m := m1) (t := w1) fun lm1 => ?_
  refine ctb (d := e2) (m := mt2) (t := baseT) fun lt2 => ?_
  by_cases hk : k < es.length ∧ k < 60
  · obtain ⟨hk, hk60⟩ := hk
    obtain ⟨e0, he0⟩ : ∃ e0, es[k]? = some e0 := ⟨_, List.getElem?_eq_getElem hk⟩
    obtain ⟨⟨D, cc⟩, hz, _⟩ := zip_get he0 hE.ln
    have hzm := List.mem_of_getElem? hz
    have hcp := hE.cp _ hzm
    have hdi := hE.di _ hzm
    have hok := hE.ok e0 (List.mem_of_getElem? he0)
    simp only at hcp hdi
    haveI : Rd B Ev A (es.zip hd) := ⟨hE.rd⟩
    have F1 := CutEvent_spec e0.kind e0.name e0.text D e0.dice cc hcp
    have l1 : (e0.name.take 40).length ≤ 1000 := by rw [List.length_take]; omega
    have l2 : (e0.text.take 130).length ≤ 1000 := by rw [List.length_take]; omega
    have l3 : (e0.dice.take 20).length ≤ 100000 := by rw [List.length_take]; omega
    have F2 := Step_spec b d e2 m1 w1 mt2 baseT [] u1 base_good hiv (by omega) (by omega) lm1 lt2 (tb e2 mt2 baseT) e0.kind (e0.name.take 40) (e0.text.take 130) D (e0.dice.take 20) cc l1 l2 (fun n hn => hok n (List.mem_of_mem_take hn)) B (reads_take 20 hdi) l3 (Nat.zero_le _)
    have hst : (es.take (k + 1)).foldl madeS (newW baseT) = (stepA baseT w1 ⟨e0.kind, e0.name.take 40, e0.text.take 130, e0.dice.take 20⟩).1 := by
      rw [List.take_add_one, he0, List.foldl_append, ← h3]; rfl
    generalize stepA baseT w1 ⟨e0.kind, e0.name.take 40, e0.text.take 130, e0.dice.take 20⟩ = r at *
    replace hst := Bx.mk hst
    clear h3 hiv hok hdi
    refine go ?_
    (repeat' (first | exact trivial | apply And.intro | intro _))
    all_goals first
      | (exfalso; omega)
      | skip
    rename_i m' u'
    refine wopen (ts b d e2 r.2 u') fun p _ => ?_
    simp only [List.cons_append, List.nil_append]
    refine go ?_
    (repeat' (first | exact trivial | apply And.intro | intro _))
    refine efold (ts b d e2 [] u') ((none, 0) : PA) trivial ?_
    exact rnd (k + 1, r.1, m', u') ⟨hk, hk60, hst.get.symm⟩ (by simp only; omega)
  have hte : es.take k = es.take 60 := by
    by_cases h : k = 60
    · rw [h]
    · rw [List.take_of_length_le (by omega), List.take_of_length_le (by omega)]
  rw [hte] at h3
  unfold madeW
  rw [← h3]
  clear h3 hte hiv
  refine go ?_
  (repeat' (first | exact trivial | apply And.intro | intro _))
  all_goals first
    | (exfalso; omega)
    | exact ret1 (Ps := [B, wl d m1 w1]) ⟨d, m1, rfl, rfl⟩
end Go.Proofs.YtflmbhkjhfmeoaaGreat
namespace Go.Proofs.YtflmbhkjhfmeoaaGreat
open Go.SL
set_option maxHeartbeats 8000000
set_option maxRecDepth 20000
theorem ints16_spec (l : List Int) (hl : l.length ≤ 1000000) (A A' : Option Addr) (c c' : Nat) : Trip Tryz.prog 35 [.slice A l.length c, .slice A' l.length c'] [sl E64 3 A c l, sl E64 3 A' c' l] (fun v Ps => v = .bool true ∧ Ps = [sl E64 3 A c l, sl E64 3 A' c' l]) := by
  refine Trip.of (m := 26) Tryz.func35 rfl rfl rfl ?_
  intro o Rs
  simp only [List.cons_append, List.nil_append, enumFrom]
  refine go ?_
  refine ⟨?_, by simp⟩ <;> intros
  refine loop (σ := Nat) (fun k => k ≤ l.length) (fun k => [(0, .slice A l.length c), (1, .slice A' l.length c'), (5, .int .i64 (k : Int))]) (fun k => sl E64 3 A c l :: sl E64 3 A' c' l :: Rs) (fun k => l.length - k) 0 (Nat.zero_le _) fun k hk => ?_
  by_cases hk2 : k < l.length
  · obtain ⟨x, hx⟩ : ∃ x, l[k]? = some x := ⟨_, List.getElem?_eq_getElem hk2⟩
    refine go ?_
    (repeat' (first | exact trivial | apply And.intro | intro _))
    all_goals first
      | (exfalso; omega)
      | exact rnd (k + 1) hk2 (by omega)
  · refine go ?_
    simp
theorem all_step (n : Nat) : ints (List.range (n + 1)) = ints (List.range n) ++ [(n : Int)] := by
  rw [List.range_succ]; simp [ints]
theorem EntityFinds_spec (es : List Evt) (hd : List PA) (A : Option Addr) (c : Nat) (B : HProp) (hE : Evs B A es hd) (hl : es.length ≤ 9223372036854775807) (room : Int) (name word : Tx) :
    Trip Tryz.prog 6 [.slice A es.length c, .int .i64 room, str name, str word] [B] (fun v Ps => v = .bool true ∧ Ps = [B]) := by
  refine Trip.of (m := 102) Tryz.func6 rfl rfl rfl ?_
  intro o Rs
  simp only [List.cons_append, List.nil_append, enumFrom]
  have F1 := begun16_spec
  have F2 := Made_spec es hd A c B hE hl
  have F3 := Base_spec
  have F4 := Cut6_spec word 20 (by decide)
  have F5 := Cut6_spec name 20 (by decide)
  have l1 : (name.take 20).length ≤ 20 := by rw [List.length_take]; omega
  have l2 : (word.take 20).length ≤ 20 := by rw [List.length_take]; omega
  have hiv := made_iv es
  generalize madeW es = w at *
  generalize name.take 20 = nm at *
  generalize word.take 20 = wd at *
  have bw := iv_bw hiv (by omega) (by omega)
  have bt := bt_of base_good
  have n1 := hiv.w0.nt
  have n2 := hiv.w0.nm
  have n3 := hiv.w0.nc
  refine go ?_
  refine ⟨?_, by simp⟩ <;> intros
  rename_i d m e mt
  clear F1 F2 F3 F4 F5
  refine cwl (d := d) (m := m) (t := w) fun lm => ?_
  refine ctb (d := e) (m := mt) (t := baseT) fun lt => ?_
  refine loop (σ := Nat) (fun p => p ≤ 6) (fun p => [(1, .int .i64 room), (2, str nm), (3, str wd), (9, .bool true), (10, .pointer (some ⟨d, 0, none⟩)), (11, .pointer (some ⟨e, 0, none⟩)), (12, .int .i64 (p : Int))]) (fun _ => wl d m w :: tb e mt baseT :: B :: Rs) (fun p => 6 - p) 0 (by omega) fun p hp => ?_
  by_cases hp2 : p < 6
  · have F1 := OfP_spec d m w nm (p : Int) (by omega) (wl d m w)
    have F2 := Of_spec d m w nm (p : Int) (by omega) (wl d m w)
    have hln : (ints (ofL w nm (p : Int))).length ≤ 1000000 := by rw [ints_len]; exact Nat.le_trans (pos_len _ _) (by omega)
    have F3 := ints16_spec (ints (ofL w nm (p : Int))) hln
    generalize ints (ofL w nm (p : Int)) = l at *
    refine go ?_
    refine ⟨?_, by simp⟩ <;> intros
    exact rnd (p + 1) hp2 (by omega)
  have h6 : p = 6 := by omega
  subst h6
  refine go ?_
  refine ⟨?_, by simp⟩ <;> intros
  refine loop (σ := Nat × PA) (fun s => s.1 ≤ w.things.length) (fun s => [(1, .int .i64 room), (2, str nm), (3, str wd), (9, .bool true), (10, .pointer (some ⟨d, 0, none⟩)), (11, .pointer (some ⟨e, 0, none⟩)), (13, .slice s.2.1 (ints (List.range s.1)).length s.2.2), (14, .int .i64 (s.1 : Int))]) (fun s => sl E64 3 s.2.1 s.2.2 (ints (List.range s.1)) :: wl d m w :: tb e mt baseT :: B :: Rs) (fun s => w.things.length - s.1) (0, none, 0) (Nat.zero_le _) ?_
  rintro ⟨k, A1, c1⟩ hk
  simp only at hk ⊢
  by_cases hk2 : k < w.things.length
  · have hst := all_step k
    have hlr : (ints (List.range k)).length ≤ 1000 := by rw [ints_len, List.length_range]; omega
    generalize ints (List.range k) = l at *
    refine go ?_
    refine ⟨?_, by simp⟩ <;> intros
    rename Option Addr => A'
    rename Nat => c'
    exact rnd (k + 1, A', c') hk2 (by simp only; omega) (hx := by simp only [hst]; (repeat (first | exact trivial | refine And.intro rfl ?_ | fail))) (hh := by simp only [hst]; (exact ent_))
  have hlr : (List.range k).length ≤ 100000 := by rw [List.length_range]; omega
  have F1 := CharP_spec d m w nm (by omega) lm (wl d m w)
  have F2 := Char_spec d m w nm (by omega) lm (wl d m w)
  have F3 := HereP_spec d m w room (by omega) (wl d m w)
  have F4 := Here_spec d m w room (by omega) (wl d m w)
  have hl1 : (ints (hereL w room)).length ≤ 1000000 := by rw [ints_len]; exact Nat.le_trans (pos_len _ _) (by omega)
  have F5 := ints16_spec (ints (hereL w room)) hl1
  generalize iv (charI w nm) = ci at *
  generalize ints (hereL w room) = la at *
  refine go ?_
  refine ⟨?_, by simp⟩ <;> intros
  clear F1 F2 F3 F4 F5
  have F1 := MobsP_spec d m w room (by omega) (wl d m w)
  have F2 := Mobs_spec d m w room (by omega) (wl d m w)
  have F3 := WhoP_spec d m w room (by omega) lm (wl d m w)
  have F4 := Who_spec d m w room (by omega) lm (wl d m w)
  have hl2 : (ints (mobsL w room)).length ≤ 1000000 := by rw [ints_len]; exact Nat.le_trans (pos_len _ _) (by omega)
  have F5 := ints16_spec (ints (mobsL w room)) hl2
  have hl3 : (ints (whoL w room)).length ≤ 1000000 := by rw [ints_len]; exact Nat.le_trans (pos_len _ _) (by omega)
  have F6 := ints16_spec (ints (whoL w room)) hl3
  generalize ints (mobsL w room) = lb at *
  generalize ints (whoL w room) = lc at *
  refine go ?_
  refine ⟨?_, by simp⟩ <;> intros
  clear F1 F2 F3 F4 F5 F6
  have F1 := FindP_spec d e m w mt baseT (by omega) (by decide) (tb e mt baseT) (List.range k) hlr A1 c1 (wl d m w) wd (by omega) (sl E64 3 A1 c1 (ints (List.range k))) reads_sl
  have F2 := Find_spec d e m w mt baseT bw bt (tb e mt baseT) (List.range k) hlr A1 c1 (wl d m w) wd (by omega)
  generalize iv (findA numM baseT w (List.range k) wd) = fi at *
  refine go ?_
  simp
end Go.Proofs.YtflmbhkjhfmeoaaGreat
namespace Go.SL
open Go.RowKit
def Dec (P : Program) (W : World) (t : TypeId) {α : Type} (En : Enc α) (Good : α → Prop) : Prop :=
  ∀ (H : Type) (enc : TypeId × Value → H) (base : Nat) (spare : Nat → Bool) (held : Bool) (fuel : Nat) (cs : List Value) (x : DataW H × List MemPlace), DataW.trod enc P W base spare held fuel t cs = some x → ∃ y, En.f y = cs ∧ Good y
def HdrOk (W : World) {α : Type} (En : Enc α) (Good : α → Prop) (h : Hdr) : Prop :=
  ∃ l : List α, l.length = h.2.1 ∧ h.2.1 ≤ h.2.2 ∧ h.2.2 ≤ maxLen ∧ Reads (base W) En h.1 l ∧ ∀ y ∈ l, Good y
section
variable {P : Program} {W : World} {t : TypeId}
theorem dec_int {k : IntKind} (ht : P.underlying t = some (.int k)) : Dec P W t (Enc.int k) (fun z => (Lit.int k z).wf = true) := by
  intro H enc base spare held fuel cs x h
  obtain ⟨n, rfl, _, hw⟩ := DataW.trod_int ht h
  exact ⟨n, rfl, hw⟩
theorem dec_str (ht : P.underlying t = some .string) : Dec P W t Enc.str (fun s => s.length ≤ maxLen) := by
  intro H enc base spare held fuel cs x h
  obtain ⟨s, rfl, _, hs⟩ := DataW.trod_string ht h
  refine ⟨s.data.toList, ?_, ?_⟩
  · show [str s.data.toList] = _
    rw [str_data]
  · show s.data.toList.length ≤ maxLen
    rw [Array.length_toList]; exact hs
theorem dec_slice {e : TypeId} {α : Type} {En : Enc α} {Good : α → Prop} (ht : P.underlying t = some (.slice e)) (hc : P.cellsOf e = En.sz) (hd : Dec P W e En Good) : Dec P W t Enc.hdr (HdrOk W En Good) := by
  intro H enc bs spare held fuel cs x h
  rcases Go.Deep.open_slice ht h with ⟨rfl, _⟩ | ⟨a, len, cap, m, n, D, Pl, rfl, _, hl, hm, hmm, _, hx⟩
  · exact ⟨(none, 0, 0), rfl, [], rfl, Nat.le_refl _, Nat.zero_le _, fun _ _ _ _ => .inl rfl, fun _ h => by cases h⟩
  · have hlm : len ≤ m := by rw [hmm]; split <;> omega
    have each : ∀ i, i < len → ∃ y, Good y ∧ ∀ j v, (En.f y)[j]? = some v → W.cell? (a.add (i * En.sz + j)) = some v := by
      intro i hi
      obtain ⟨cs', h1, h2⟩ := hx i (by omega)
      obtain ⟨y, rfl, hg⟩ := hd _ _ _ _ _ _ _ _ h2
      obtain ⟨_, hlen, hcell⟩ := World.cells?_some h1
      refine ⟨y, hg, fun j v hv => ?_⟩
      have hj := (List.getElem?_eq_some_iff.1 hv).1
      have := hcell j (by rw [hc, ← En.len y]; exact hj)
      rw [hv, hc] at this
      rw [← this]
      congr 1
      unfold Addr.add
      by_cases h1 : i * En.sz = 0
      · by_cases h2 : j = 0
        · simp [h1, h2]
        · simp [h1, h2]
      · by_cases h2 : j = 0
        · simp [h1, h2]
        · rw [if_neg (by omega), if_neg h2, if_neg h1]; simp [Nat.add_assoc]
    have pickL : ∃ l : List α, l.length = len ∧ ∀ i y, l[i]? = some y → Good y ∧ ∀ j v, (En.f y)[j]? = some v → W.cell? (a.add (i * En.sz + j)) = some v := by
      have : ∀ k, k ≤ len → ∃ l : List α, l.length = k ∧ ∀ i y, l[i]? = some y → Good y ∧ ∀ j v, (En.f y)[j]? = some v → W.cell? (a.add (i * En.sz + j)) = some v := by
        intro k
        induction k with
        | zero => intro _; exact ⟨[], rfl, fun i y h => by simp at h⟩
        | succ k ih =>
          intro hk
          obtain ⟨l, h1, h2⟩ := ih (by omega)
          obtain ⟨y, hg, hy⟩ := each k (by omega)
          refine ⟨l ++ [y], by simp [h1], fun i z hz => ?_⟩
          rcases Nat.lt_or_ge i k with hik | hik
          · rw [List.getElem?_append_left (by omega)] at hz; exact h2 i z hz
          · rw [List.getElem?_append_right (by omega), h1] at hz
            have : i - k = 0 := by have := (List.getElem?_eq_some_iff.1 hz).1; simp at this; omega
            rw [this] at hz; simp at hz; subst hz
            have : i = k := by omega
            subst this; exact ⟨hg, hy⟩
      exact this len (Nat.le_refl _)
    obtain ⟨l, hl1, hl2⟩ := pickL
    refine ⟨(some a, len, cap), rfl, l, hl1, hl, hm, ?_, fun y hy => ?_⟩
    · rcases Nat.eq_zero_or_pos len with h0 | h0
      · exact fun _ _ _ _ => .inl (List.length_eq_zero_iff.1 (by omega))
      have hsp : a.spot = none := by
        have hy0 : l[0]? = some l[0] := List.getElem?_eq_getElem (by omega)
        have hp := En.pos
        have hj : (En.f l[0])[0]? = some ((En.f l[0])[0]'(by rw [En.len]; exact hp)) := List.getElem?_eq_getElem _
        have h1 := (hl2 0 l[0] hy0).2 0 _ hj
        have h2 : a.add (0 * En.sz + 0) = a := by simp [Addr.add]
        rw [h2] at h1
        cases hs : a.spot with
        | none => rfl
        | some s => simp only [World.cell?, hs, Option.isSome_some, if_true] at h1; split at h1 <;> cases h1
      refine reads_base (.inr ⟨a.block, a.off, ?_, fun i v hv => ?_⟩)
      · obtain ⟨b, o, s⟩ := a; simp only at hsp; subst hsp; rfl
      · have hi := (List.getElem?_eq_some_iff.1 hv).1
        rw [En.all_length] at hi
        have hp := En.pos
        have hdm : i / En.sz * En.sz + i % En.sz = i := by rw [Nat.mul_comm]; exact Nat.div_add_mod i En.sz
        have hml : i % En.sz < En.sz := Nat.mod_lt _ hp
        have hq : i / En.sz < l.length := (Nat.div_lt_iff_lt_mul hp).2 hi
        have hy : l[i / En.sz]? = some l[i / En.sz] := List.getElem?_eq_getElem hq
        have hz : (En.f l[i / En.sz])[i % En.sz]? = some ((En.f l[i / En.sz])[i % En.sz]'(by rw [En.len]; exact hml)) := List.getElem?_eq_getElem _
        have h1 := En.all_get l _ _ _ _ hy hz
        rw [hdm] at h1
        rw [h1] at hv
        cases hv
        have := (hl2 _ _ hy).2 _ _ hz
        rw [hdm, add_addr a hsp] at this
        exact this
    · obtain ⟨i, hi, rfl⟩ := List.mem_iff_getElem.1 hy
      exact (hl2 i _ (List.getElem?_eq_getElem hi)).1
def Enc.pair {α β : Type} (E : Enc α) (F : Enc β) : Enc (α × β) := ⟨E.sz + F.sz, fun p => E.f p.1 ++ F.f p.2, fun p => by rw [List.length_append, E.len, F.len], fun p v h => by
  rcases List.mem_append.1 h with h | h
  · exact E.one _ _ h
  · exact F.one _ _ h, Nat.add_pos_left E.pos _⟩
inductive Flds (P : Program) (W : World) : List Field → Nat → (α : Type) → Enc α → (α → Prop) → Prop
  | one {f : Field} {off : Nat} {α : Type} {E : Enc α} {G : α → Prop} (hd : Dec P W f.type E G) (ho : f.offset = off) (hc : P.cellsOf f.type = E.sz) : Flds P W [f] off α E G
  | cons {f : Field} {fs : List Field} {off off' : Nat} {α β : Type} {E : Enc α} {F : Enc β} {G : α → Prop} {G' : β → Prop} (hd : Dec P W f.type E G) (ho : f.offset = off) (hc : P.cellsOf f.type = E.sz) (hn : off + E.sz = off') (k : Flds P W fs off' β F G') :
    Flds P W (f :: fs) off (α × β) (Enc.pair E F) (fun p => G p.1 ∧ G' p.2)
theorem Flds.dec {fs : List Field} {off : Nat} {α : Type} {E : Enc α} {G : α → Prop} (h : Flds P W fs off α E G) {cs : List Value} :
    (∀ f ∈ fs, ∃ (H : Type) (enc : TypeId × Value → H) (base : Nat) (spare : Nat → Bool) (held : Bool) (fuel : Nat) (x : DataW H × List MemPlace), DataW.trod enc P W base spare held fuel f.type ((cs.drop f.offset).take (P.cellsOf f.type)) = some x) →
    ∃ y, E.f y = (cs.drop off).take E.sz ∧ G y := by
  induction h with
  | one hd ho hc =>
    intro h
    obtain ⟨H, enc, base, spare, held, fuel, x, hx⟩ := h _ (List.mem_singleton.2 rfl)
    obtain ⟨y, hy, hg⟩ := hd _ _ _ _ _ _ _ _ hx
    exact ⟨y, by rw [hy, ho, hc], hg⟩
  | cons hd ho hc hn _ ih =>
    intro h
    obtain ⟨H, enc, base, spare, held, fuel, x, hx⟩ := h _ List.mem_cons_self
    obtain ⟨y, hy, hg⟩ := hd _ _ _ _ _ _ _ _ hx
    obtain ⟨z, hz, hg'⟩ := ih (fun f hf => h f (List.mem_cons_of_mem _ hf))
    refine ⟨(y, z), ?_, hg, hg'⟩
    show _ ++ _ = _
    rw [hy, hz, ho, hc]
    show _ = List.take (_ + _) _
    rw [← hn, List.take_add, List.drop_drop]
theorem dec_struct {fs : Array Field} {α : Type} {E : Enc α} {G : α → Prop} (ht : P.underlying t = some (.struct fs)) (hc : P.cellsOf t = E.sz) (hf : Flds P W fs.toList 0 α E G) : Dec P W t E G := by
  intro H enc base spare held fuel cs x h
  obtain ⟨xs, n, _, _, hl, hxl, hx⟩ := DataW.trod_struct ht h
  obtain ⟨y, hy, hg⟩ := hf.dec (cs := cs) (fun f hf => by
    obtain ⟨i, hi, rfl⟩ := List.mem_iff_getElem.1 hf
    have hi' : i < fs.size := by simpa using hi
    have h1 := hx i fs.toList[i] (by simp [hi'])
    have h2 : xs[i]? = some (xs[i]'(by omega)) := List.getElem?_eq_getElem _
    rw [h2] at h1
    exact ⟨H, enc, base, spare, held, n, _, h1⟩)
  refine ⟨y, ?_, hg⟩
  rw [hy, List.drop_zero, List.take_of_length_le (by omega)]
theorem Dec.map {α β : Type} {E : Enc α} {F : Enc β} {G : α → Prop} {G' : β → Prop} (g : α → β) (he : ∀ x, F.f (g x) = E.f x) (hg : ∀ x, G x → G' (g x)) (h : Dec P W t E G) : Dec P W t F G' := by
  intro H enc base spare held fuel cs x hx
  obtain ⟨y, hy, hk⟩ := h _ _ _ _ _ _ _ _ hx
  exact ⟨g y, by rw [he, hy], hg y hk⟩
end
end Go.SL
namespace Go.Proofs.YtflmbhkjhfmeoaaGreat
open Go.SL Go.RowKit
@[reducible] def EvE : Enc (Int × Tx × Tx × Hdr) := Enc.pair (Enc.int .i64) (Enc.pair Enc.str (Enc.pair Enc.str Enc.hdr))
def EvGood (W : World) (y : Int × Tx × Tx × Hdr) : Prop := (Lit.int .i64 y.1).wf = true ∧ y.2.1.length ≤ maxLen ∧ y.2.2.1.length ≤ maxLen ∧ HdrOk W (Enc.int .i64) (fun z => (Lit.int .i64 z).wf = true) y.2.2.2
theorem dec_event (W : World) : Dec Tryz.prog W 75 EvE (EvGood W) :=
  (dec_struct Tryz.underlying75 (by kernel_rfl) (.cons (dec_int Tryz.underlying3) rfl (by kernel_rfl) rfl (.cons (dec_str Tryz.underlying9) rfl (by kernel_rfl) rfl (.cons (dec_str Tryz.underlying9) rfl (by kernel_rfl) rfl
    (.one (dec_slice Tryz.underlying41 (by kernel_rfl) (dec_int Tryz.underlying3)) rfl (by kernel_rfl)))))).map (fun x => x) (fun _ => rfl) (fun _ h => h)
theorem dec_events (W : World) : Dec Tryz.prog W 22 Enc.hdr (HdrOk W EvE (EvGood W)) := dec_slice Tryz.underlying22 (by kernel_rfl) (dec_event W)
theorem wf_range {n : Int} (h : (Lit.int .i64 n).wf = true) : -9223372036854775808 ≤ n ∧ n ≤ 9223372036854775807 := by
  simp [Lit.wf, IntKind.min, IntKind.max, IntKind.signed, IntKind.bits] at h
  omega
theorem zip_back {α β : Type} : ∀ l : List (α × β), (l.map (·.1)).zip (l.map (·.2)) = l
  | [] => rfl
  | a :: l => by rw [List.map_cons, List.map_cons, List.zip_cons_cons, zip_back l]
theorem evs_list {W : World} : ∀ l : List (Int × Tx × Tx × Hdr), (∀ y ∈ l, EvGood W y) → ∃ ps : List (Evt × PA), ps.length = l.length ∧ Ev.all ps = EvE.all l ∧ ∀ p ∈ ps, Reads (base W) E64 p.2.1 p.1.dice ∧ p.1.dice.length ≤ p.2.2 ∧ ∀ n ∈ p.1.dice, -9223372036854775808 ≤ n ∧ n ≤ 9223372036854775807
  | [], _ => ⟨[], rfl, rfl, fun _ h => by cases h⟩
  | y :: l, h => by
    obtain ⟨ps, h1, h2, h3⟩ := evs_list l fun z hz => h z (List.mem_cons_of_mem _ hz)
    obtain ⟨k, nm, tx, D, n, m⟩ := y
    obtain ⟨hk, hn, ht, dc, hl, hm, _, hR, hG⟩ := h _ List.mem_cons_self
    simp only at hl hm hR hG
    refine ⟨((⟨k, nm, tx, dc⟩ : Evt), (D, m)) :: ps, by rw [List.length_cons, List.length_cons, h1], ?_, fun p hp => ?_⟩
    · have e1 : Ev.all (((⟨k, nm, tx, dc⟩ : Evt), ((D, m) : PA)) :: ps) = Ev.f (⟨k, nm, tx, dc⟩, (D, m)) ++ Ev.all ps := rfl
      have e2 : EvE.all ((k, nm, tx, D, n, m) :: l) = EvE.f (k, nm, tx, D, n, m) ++ EvE.all l := rfl
      rw [e1, e2, h2]
      congr 1
      rw [← hl]; rfl
    · rcases List.mem_cons.1 hp with rfl | hp
      · exact ⟨hR, by simp only; omega, fun z hz => wf_range (hG z hz)⟩
      · exact h3 p hp
theorem evs_of {W : World} {A : Option Addr} {len cap : Nat} (h : HdrOk W EvE (EvGood W) (A, len, cap)) : ∃ es hd, es.length = len ∧ es.length ≤ 9223372036854775807 ∧ Evs (base W) A es hd := by
  obtain ⟨l, hl, hc, hm, hR, hG⟩ := h
  simp only at hl hc hm hR
  obtain ⟨ps, h1, h2, h3⟩ := evs_list l hG
  refine ⟨ps.map (·.1), ps.map (·.2), by rw [List.length_map]; omega, ?_, ?_⟩
  · rw [List.length_map, h1, hl]
    exact Nat.le_trans (Nat.le_trans hc hm) (by decide)
  · refine ⟨?_, by rw [List.length_map, List.length_map], ?_, ?_, ?_⟩
    · rw [zip_back]
      intro f w hf hw
      rcases hR f w hf hw with h0 | ⟨g, off, hA, hcell⟩
      · refine .inl (List.length_eq_zero_iff.1 ?_)
        rw [h1, h0]; rfl
      · exact .inr ⟨g, off, hA, fun i v hv => hcell i v (by rw [← h2]; exact hv)⟩
    · rw [zip_back]; exact fun p hp => (h3 p hp).1
    · rw [zip_back]; exact fun p hp => (h3 p hp).2.1
    · intro e he n hn
      obtain ⟨p, hp, rfl⟩ := List.mem_map.1 he
      exact (h3 p hp).2.2 n hn
theorem txt_len {s : ByteArray} (h : s.size ≤ maxLen) : True := trivial
end Go.Proofs.YtflmbhkjhfmeoaaGreat
