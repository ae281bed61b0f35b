/-
  Walks and laws joined: WdWords.
-/
import Derived.Test.YtflmbhkjhfmeoaaGreatQ24
set_option linter.unusedVariables false
set_option linter.unusedSimpArgs false
namespace Go.Proofs.YtflmbhkjhfmeoaaGreat
open Go.SL
set_option maxHeartbeats 8000000
set_option maxRecDepth 20000
def cmds : List Tx := [[110, 111, 114, 116, 104], [101, 97, 115, 116], [115, 111, 117, 116, 104], [119, 101, 115, 116], [117, 112], [100, 111, 119, 110], [108, 111, 111, 107], [103, 101, 116], [100, 114, 111, 112], [105, 110, 118, 101, 110, 116, 111, 114, 121], [115, 97, 121], [116, 101, 108, 108], [119, 104, 111], [107, 105, 108, 108], [102, 108, 101, 101], [119, 101, 97, 114], [114, 101, 109, 111, 118, 101], [115, 99, 111, 114, 101], [98, 117, 121], [115, 101, 108, 108], [108, 105, 115, 116], [100, 101, 112, 111, 115, 105, 116], [119, 105, 116, 104, 100, 114, 97, 119], [98, 97, 108, 97, 110, 99, 101], [99, 114, 97, 102, 116], [113, 117, 101, 115, 116], [103, 105, 118, 101], [104, 111, 117, 115, 101], [111, 102, 102, 101, 114], [98, 105, 100], [108, 111, 116, 115], [113, 117, 105, 116]]
theorem Commands_spec : Trip Tryz.prog 215 [] [] (fun v Ps => ∃ g, v = .slice (some ⟨g, 0, none⟩) cmds.length 32 ∧ Ps = [sl Enc.str 9 (some ⟨g, 0, none⟩) 32 cmds]) := by
  refine Trip.of (m := 2) Tryz.func215 rfl rfl rfl ?_
  intro o Rs
  simp only [List.cons_append, List.nil_append, enumFrom]
  refine go ?_
  refine ⟨?_, by simp⟩ <;> intros
  exact ret1 ⟨_, rfl, rfl⟩
def isB (c : UInt8) : Bool := c == 32 || c == 9
def skB (s : Tx) (i : Nat) : Nat := i + ((s.drop i).takeWhile isB).length
def skW (s : Tx) (i : Nat) : Nat := i + ((s.drop i).takeWhile fun c => !isB c).length
theorem sk_yes {p : UInt8 → Bool} {s : Tx} {i : Nat} {c : UInt8} (h : s[i]? = some c) (hp : p c = true) : i + ((s.drop i).takeWhile p).length = i + 1 + ((s.drop (i + 1)).takeWhile p).length := by
  have hk := List.getElem?_eq_some_iff.1 h
  rw [List.drop_eq_getElem_cons hk.1, hk.2, List.takeWhile_cons, hp]
  simp; omega
theorem sk_no {p : UInt8 → Bool} {s : Tx} {i : Nat} {c : UInt8} (h : s[i]? = some c) (hp : p c = false) : i + ((s.drop i).takeWhile p).length = i := by
  have hk := List.getElem?_eq_some_iff.1 h
  rw [List.drop_eq_getElem_cons hk.1, hk.2, List.takeWhile_cons, hp]
  simp
theorem sk_end {p : UInt8 → Bool} {s : Tx} {i : Nat} (h : s.length ≤ i) : i + ((s.drop i).takeWhile p).length = i := by
  rw [List.drop_eq_nil_of_le h]; simp
def behI (s : Tx) : Nat → Nat
  | 0 => 0
  | n + 1 => skW s (skB s (behI s n))
def behT (s : Tx) (n : Nat) : Tx := s.drop (skB s (behI s n))
theorem take_le {p : UInt8 → Bool} (s : Tx) (i : Nat) (h : i ≤ s.length) : i + ((s.drop i).takeWhile p).length ≤ s.length := by
  have h1 : ((s.drop i).takeWhile p).length ≤ (s.drop i).length := (List.takeWhile_sublist _).length_le
  rw [List.length_drop] at h1; omega
theorem behI_le (s : Tx) : ∀ n, behI s n ≤ s.length
  | 0 => Nat.zero_le _
  | n + 1 => take_le s _ (take_le s _ (behI_le s n))
theorem isB_cases (c : UInt8) : ((c.toNat : Int) = 32 ∧ isB c = true) ∨ ((c.toNat : Int) = 9 ∧ isB c = true) ∨ ((¬ (c.toNat : Int) = 32 ∧ ¬ (c.toNat : Int) = 9) ∧ isB c = false) := by
  by_cases h1 : c = 32
  · subst h1; exact .inl ⟨rfl, rfl⟩
  · by_cases h2 : c = 9
    · subst h2; exact .inr (.inl ⟨rfl, rfl⟩)
    · refine .inr (.inr ⟨⟨fun h => h1 ?_, fun h => h2 ?_⟩, by simp [isB, h1, h2]⟩)
      · apply UInt8.toNat_inj.1; have h3 : c.toNat = 32 := (by omega); rw [h3]; rfl
      · apply UInt8.toNat_inj.1; have h3 : c.toNat = 9 := (by omega); rw [h3]; rfl
theorem Behind_spec (s : Tx) (hs : s.length ≤ 1000000) (n : Nat) (hn : n ≤ 1000) : Trip Tryz.prog 236 [str s, .int .i64 (n : Int)] [] (fun v Ps => v = str (behT s n) ∧ Ps = []) := by
  refine Trip.of (m := 69) Tryz.func236 rfl rfl rfl ?_
  intro o Rs
  simp only [List.cons_append, List.nil_append, enumFrom]
  refine go ?_
  refine ⟨?_, by simp⟩ <;> intros
  refine loop (σ := Nat) (fun j => j ≤ n) (fun j => [(0, str s), (1, .int .i64 (n : Int)), (5, .int .i64 ((behI s j : Nat) : Int)), (6, .int .i64 (j : Int))]) (fun _ => Rs) (fun j => n - j) 0 (Nat.zero_le _) fun j hj => ?_
  have hbl := behI_le s j
  by_cases hj2 : j < n
  · have hst : behI s (j + 1) = skW s (skB s (behI s j)) := rfl
    generalize behI s j = i0 at *
    refine go ?_
    refine ⟨?_, by simp⟩ <;> intros
    have hskB0 : skB s i0 = skB s i0 := rfl
    refine loop (σ := Nat) (fun i => i ≤ s.length ∧ skB s i = skB s i0) (fun i => [(0, str s), (1, .int .i64 (n : Int)), (5, .int .i64 (i : Int)), (6, .int .i64 (j : Int))]) (fun _ => Rs) (fun i => s.length - i) i0 ⟨by assumption, rfl⟩ fun i ⟨hi, he⟩ => ?_
    by_cases hi2 : i < s.length
    · obtain ⟨c, hc⟩ : ∃ c, s[i]? = some c := ⟨_, List.getElem?_eq_getElem hi2⟩
      rcases isB_cases c with ⟨h1, hb⟩ | ⟨h1, hb⟩ | ⟨⟨h1, h2⟩, hb⟩
      ·
        have hs1 : skB s (i + 1) = skB s i0 := by rw [← he]; exact (sk_yes (p := isB) hc hb).symm
        replace hs1 := Bx.mk hs1
        clear he hb
        refine go ?_
        refine ⟨?_, by simp⟩ <;> intros
        exact rnd (i + 1) ⟨hi2, hs1.get⟩ (by omega)
      ·
        have hs1 : skB s (i + 1) = skB s i0 := by rw [← he]; exact (sk_yes (p := isB) hc hb).symm
        replace hs1 := Bx.mk hs1
        clear he hb
        refine go ?_
        refine ⟨?_, by simp⟩ <;> intros
        exact rnd (i + 1) ⟨hi2, hs1.get⟩ (by omega)
      ·
        have hs1 : i = skB s i0 := by rw [← he]; exact (sk_no (p := isB) hc hb).symm
        clear he hb
        refine go ?_
        refine ⟨?_, by simp⟩ <;> intros
        have hi1 := hs1
        clear hs1
        obtain ⟨i1, hi1e⟩ : ∃ i1, i1 = i := ⟨_, rfl⟩
        rw [← hi1e] at hi1 hi ⊢
        clear hi1e
        have hskW0 : skW s i1 = skW s i1 := rfl
        refine loop (σ := Nat) (fun i => i ≤ s.length ∧ skW s i = skW s i1) (fun i => [(0, str s), (1, .int .i64 (n : Int)), (5, .int .i64 (i : Int)), (6, .int .i64 (j : Int))]) (fun _ => Rs) (fun i => s.length - i) i1 ⟨by assumption, rfl⟩ fun i ⟨hi, he⟩ => ?_
        by_cases hi2 : i < s.length
        · obtain ⟨c, hc⟩ : ∃ c, s[i]? = some c := ⟨_, List.getElem?_eq_getElem hi2⟩
          rcases isB_cases c with ⟨h1, hb⟩ | ⟨h1, hb⟩ | ⟨⟨h1, h2⟩, hb⟩
          ·
            have hs1 : i = skW s i1 := by rw [← he]; exact (sk_no (p := fun c => !isB c) hc (by simp [hb])).symm
            clear he hb
            refine go ?_
            refine ⟨?_, by simp⟩ <;> intros
            exact rnd (j + 1) hj2 (by omega) (hx := by rw [hst, ← hi1, ← hs1]; (repeat (first | exact trivial | refine And.intro rfl ?_ | fail)))
          ·
            have hs1 : i = skW s i1 := by rw [← he]; exact (sk_no (p := fun c => !isB c) hc (by simp [hb])).symm
            clear he hb
            refine go ?_
            refine ⟨?_, by simp⟩ <;> intros
            exact rnd (j + 1) hj2 (by omega) (hx := by rw [hst, ← hi1, ← hs1]; (repeat (first | exact trivial | refine And.intro rfl ?_ | fail)))
          ·
            have hs1 : skW s (i + 1) = skW s i1 := by rw [← he]; exact (sk_yes (p := fun c => !isB c) hc (by simp [hb])).symm
            replace hs1 := Bx.mk hs1
            clear he hb
            refine go ?_
            refine ⟨?_, by simp⟩ <;> intros
            exact rnd (i + 1) ⟨hi2, hs1.get⟩ (by omega)
        · have hs1 : i = skW s i1 := by rw [← he]; exact (sk_end (p := fun c => !isB c) (by omega)).symm
          clear he
          refine go ?_
          refine ⟨?_, by simp⟩ <;> intros
          exact rnd (j + 1) hj2 (by omega) (hx := by rw [hst, ← hi1, ← hs1]; (repeat (first | exact trivial | refine And.intro rfl ?_ | fail)))
    · have hs1 : i = skB s i0 := by rw [← he]; exact (sk_end (p := isB) (by omega)).symm
      clear he
      refine go ?_
      refine ⟨?_, by simp⟩ <;> intros
      have hi1 := hs1
      clear hs1
      obtain ⟨i1, hi1e⟩ : ∃ i1, i1 = i := ⟨_, rfl⟩
      rw [← hi1e] at hi1 hi ⊢
      clear hi1e
      have hskW0 : skW s i1 = skW s i1 := rfl
      refine loop (σ := Nat) (fun i => i ≤ s.length ∧ skW s i = skW s i1) (fun i => [(0, str s), (1, .int .i64 (n : Int)), (5, .int .i64 (i : Int)), (6, .int .i64 (j : Int))]) (fun _ => Rs) (fun i => s.length - i) i1 ⟨by assumption, rfl⟩ fun i ⟨hi, he⟩ => ?_
      by_cases hi2 : i < s.length
      · obtain ⟨c, hc⟩ : ∃ c, s[i]? = some c := ⟨_, List.getElem?_eq_getElem hi2⟩
        rcases isB_cases c with ⟨h1, hb⟩ | ⟨h1, hb⟩ | ⟨⟨h1, h2⟩, hb⟩
        ·
          have hs1 : i = skW s i1 := by rw [← he]; exact (sk_no (p := fun c => !isB c) hc (by simp [hb])).symm
          clear he hb
          refine go ?_
          refine ⟨?_, by simp⟩ <;> intros
          exact rnd (j + 1) hj2 (by omega) (hx := by rw [hst, ← hi1, ← hs1]; (repeat (first | exact trivial | refine And.intro rfl ?_ | fail)))
        ·
          have hs1 : i = skW s i1 := by rw [← he]; exact (sk_no (p := fun c => !isB c) hc (by simp [hb])).symm
          clear he hb
          refine go ?_
          refine ⟨?_, by simp⟩ <;> intros
          exact rnd (j + 1) hj2 (by omega) (hx := by rw [hst, ← hi1, ← hs1]; (repeat (first | exact trivial | refine And.intro rfl ?_ | fail)))
        ·
          have hs1 : skW s (i + 1) = skW s i1 := by rw [← he]; exact (sk_yes (p := fun c => !isB c) hc (by simp [hb])).symm
          replace hs1 := Bx.mk hs1
          clear he hb
          refine go ?_
          refine ⟨?_, by simp⟩ <;> intros
          exact rnd (i + 1) ⟨hi2, hs1.get⟩ (by omega)
      · have hs1 : i = skW s i1 := by rw [← he]; exact (sk_end (p := fun c => !isB c) (by omega)).symm
        clear he
        refine go ?_
        refine ⟨?_, by simp⟩ <;> intros
        exact rnd (j + 1) hj2 (by omega) (hx := by rw [hst, ← hi1, ← hs1]; (repeat (first | exact trivial | refine And.intro rfl ?_ | fail)))
  · have hjn : j = n := by omega
    subst hjn
    have hbt : behT s j = s.drop (skB s (behI s j)) := rfl
    rw [hbt]
    clear hbt
    generalize behI s j = i0 at *
    refine go ?_
    refine ⟨?_, by simp⟩ <;> intros
    have hskB0 : skB s i0 = skB s i0 := rfl
    refine loop (σ := Nat) (fun i => i ≤ s.length ∧ skB s i = skB s i0) (fun i => [(0, str s), (5, .int .i64 (i : Int))]) (fun _ => Rs) (fun i => s.length - i) i0 ⟨by assumption, rfl⟩ fun i ⟨hi, he⟩ => ?_
    by_cases hi2 : i < s.length
    · obtain ⟨c, hc⟩ : ∃ c, s[i]? = some c := ⟨_, List.getElem?_eq_getElem hi2⟩
      rcases isB_cases c with ⟨h1, hb⟩ | ⟨h1, hb⟩ | ⟨⟨h1, h2⟩, hb⟩
      ·
        have hs1 : skB s (i + 1) = skB s i0 := by rw [← he]; exact (sk_yes (p := isB) hc hb).symm
        replace hs1 := Bx.mk hs1
        clear he hb
        refine go ?_
        refine ⟨?_, by simp⟩ <;> intros
        exact rnd (i + 1) ⟨hi2, hs1.get⟩ (by omega)
      ·
        have hs1 : skB s (i + 1) = skB s i0 := by rw [← he]; exact (sk_yes (p := isB) hc hb).symm
        replace hs1 := Bx.mk hs1
        clear he hb
        refine go ?_
        refine ⟨?_, by simp⟩ <;> intros
        exact rnd (i + 1) ⟨hi2, hs1.get⟩ (by omega)
      ·
        have hs1 : i = skB s i0 := by rw [← he]; exact (sk_no (p := isB) hc hb).symm
        clear he hb
        rw [← hs1]
        refine go ?_
        simp
    · have hs1 : i = skB s i0 := by rw [← he]; exact (sk_end (p := isB) (by omega)).symm
      clear he
      rw [← hs1]
      refine go ?_
      simp
def findC (s : Tx) : Tx := if lowerM s = [] then [] else match cmds.find? (fun c => decide ((lowerM s).length ≤ c.length) && c.take (lowerM s).length == lowerM s) with
  | none => []
  | some c => c
theorem FindC_spec (s : Tx) (hs : s.length ≤ 100000) : Trip Tryz.prog 156 [str s] [] (fun v Ps => v = str (findC s) ∧ Ps = []) := by
  refine Trip.of (m := 42) Tryz.func156 rfl rfl rfl ?_
  intro o Rs
  simp only [List.cons_append, List.nil_append, enumFrom]
  have F1 := RefLower_spec s (by omega)
  have F2 := Commands_spec
  have hwl : (lowerM s).length = s.length := by simp [lowerM]
  unfold findC
  have hcl : ∀ c ∈ cmds, c.length ≤ 100 := by decide
  have hc32 : cmds.length = 32 := rfl
  refine go ?_
  refine ⟨?_, by simp⟩ <;> intros
  rename_i g
  clear F1 F2
  generalize lowerM s = w at *
  generalize cmds = L at *
  by_cases hw : w = []
  · rw [if_pos hw]
    subst hw
    refine loop (σ := Unit) (fun _ => True) (fun _ => [(3, str []), (4, .slice (some ⟨g, 0, none⟩) L.length 32), (5, .int .i64 0)]) (fun _ => sl Enc.str 9 (some ⟨g, 0, none⟩) 32 L :: Rs) (fun _ => 0) () trivial fun _ _ => ?_
    refine go ?_
    simp
  rw [if_neg hw]
  refine loop (σ := Nat) (fun k => k ≤ L.length ∧ (L.take k).find? (fun c => decide (w.length ≤ c.length) && c.take w.length == w) = none) (fun k => [(3, str w), (4, .slice (some ⟨g, 0, none⟩) L.length 32), (5, .int .i64 (k : Int))]) (fun _ => sl Enc.str 9 (some ⟨g, 0, none⟩) 32 L :: Rs) (fun k => L.length - k) 0 ⟨Nat.zero_le _, by simp⟩ fun k ⟨h1, h2⟩ => ?_
  by_cases hk : k < L.length
  · obtain ⟨c, hc⟩ : ∃ c, L[k]? = some c := ⟨_, List.getElem?_eq_getElem hk⟩
    have hc100 := hcl c (List.mem_of_getElem? hc)
    by_cases hle : w.length ≤ c.length
    · by_cases htk : c.take w.length = w
      · have hfi := fnd_hit h2 hc (by simp [hle, htk])
        rw [hfi]
        clear hfi h2 hcl
        refine go ?_
        (repeat' (first | exact trivial | apply And.intro | intro _))
        all_goals first
          | (exfalso; first | contradiction | omega)
          | rfl
      · have hfi := Bx.mk (fnd_miss h2 hc (by simp [htk]))
        clear h2 hcl
        refine go ?_
        (repeat' (first | exact trivial | apply And.intro | intro _))
        all_goals first
          | (exfalso; first | contradiction | omega)
          | exact rnd (k + 1) ⟨hk, hfi.get⟩ (by omega)
    · have hfi := Bx.mk (fnd_miss h2 hc (by simp [hle]))
      clear h2 hcl
      refine go ?_
      (repeat' (first | exact trivial | apply And.intro | intro _))
      all_goals first
        | (exfalso; first | contradiction | omega)
        | exact rnd (k + 1) ⟨hk, hfi.get⟩ (by omega)
  · rw [fnd_end h2 hk]
    clear h2 hcl
    refine go ?_
    (repeat' (first | exact trivial | apply And.intro | intro _))
    all_goals first
      | (exfalso; first | contradiction | omega)
      | rfl
end Go.Proofs.YtflmbhkjhfmeoaaGreat
