/-
  The document's sorting of tables: how it leaves them laid.
-/
import Derived.Test.YtlibnpdbcjgegaaGreatMgC
namespace Go.Proofs.YtlibnpdbcjgegaaGreat
open Go.SL
set_option linter.unusedVariables false
set_option linter.unusedSimpArgs false
set_option maxHeartbeats 8000000
set_option maxRecDepth 20000
theorem swap_perm {α : Type} {l : List α} {i j : Nat} {x y : α} (hij : i < j) (hx : l[i]? = some x) (hy : l[j]? = some y) : ((l.set i y).set j x).Perm l := by
  obtain ⟨hi, rfl⟩ := List.getElem?_eq_some_iff.1 hx
  obtain ⟨hj, rfl⟩ := List.getElem?_eq_some_iff.1 hy
  have h1 : l = l.take i ++ l[i] :: ((l.drop (i + 1)).take (j - i - 1) ++ l[j] :: l.drop (j + 1)) := by
    have h2 : l.drop (i + 1) = (l.drop (i + 1)).take (j - i - 1) ++ l[j] :: l.drop (j + 1) := by
      have h3 : (l.drop (i + 1)).drop (j - i - 1) = l[j] :: l.drop (j + 1) := by
        rw [List.drop_drop, show i + 1 + (j - i - 1) = j by omega, List.drop_eq_getElem_cons hj]
      rw [← h3, List.take_append_drop]
    rw [← h2, ← List.drop_eq_getElem_cons hi, List.take_append_drop]
  generalize l[i] = a at *
  generalize l[j] = b at *
  have hl1 : (l.take i).length = i := by rw [List.length_take]; omega
  have hl2 : ((l.drop (i + 1)).take (j - i - 1)).length = j - i - 1 := by rw [List.length_take, List.length_drop]; omega
  generalize l.take i = p at *
  generalize (l.drop (i + 1)).take (j - i - 1) = q at *
  generalize l.drop (j + 1) = r at *
  subst h1
  rw [List.set_append_right _ _ (by omega), hl1, Nat.sub_self, List.set_cons_zero, List.set_append_right _ _ (by omega), hl1]
  obtain ⟨m, hm⟩ : ∃ m, j - i = m + 1 := ⟨j - i - 1, by omega⟩
  rw [hm, List.set_cons_succ, List.set_append_right _ _ (by omega), show m - q.length = 0 by omega, List.set_cons_zero]
  refine List.Perm.append_left _ ?_
  have h3 : (b :: (q ++ a :: r)).Perm (b :: a :: (q ++ r)) := (List.perm_middle).cons b
  have h4 : (a :: (q ++ b :: r)).Perm (a :: b :: (q ++ r)) := (List.perm_middle).cons a
  exact (h3.trans (List.Perm.swap _ _ _)).trans h4.symm
theorem zip_unzip {α β : Type} : ∀ (l : List (α × β)), (l.map Prod.fst).zip (l.map Prod.snd) = l
  | [] => rfl
  | p :: l => by simp only [List.map_cons, List.zip_cons_cons, zip_unzip l]
theorem Sort_spec (e : Nat) (mt : Tay) (t : Tab) (n : Nat) (hn : n ≤ 100000) (sz : Sz t n) :
    Trip Tryz.prog 44 [.pointer (some ⟨e, 0, none⟩)] [tb e mt t] (fun v Ps => ∃ (mt' : Tay) (t' : {t' : Tab // Sz t' n}), v = .tuple #[] ∧ Ps = [tb e mt' t'.1]) := by
  refine Trip.of (m := 410) Tryz.func44 rfl rfl rfl ?_
  intro o Rs
  simp only [List.cons_append, List.nil_append, enumFrom]
  haveI : Plans 6 [63, 65, 67, 71, 74] [15, 16, 17, 18] [[0, 1, 2, 3, 4, 5, 6, 7, 8, 9, 10, 11, 12, 13, 14, 15, 16, 17, 18], [0, 1, 2, 3, 4, 5, 6, 7, 8, 9, 10, 11, 12, 13, 14, 16, 15, 17, 18]] := ⟨⟩
  haveI : Plan 7 [78, 80, 81] [0, 1, 2, 3, 4, 5, 6, 7, 8] := ⟨⟩
  haveI : Plan 8 [86, 88] [0, 1, 2, 3, 4, 5, 6, 7] := ⟨⟩
  haveI : Plans 15 [127, 129, 131, 135, 138] [15, 16, 17, 18] [[0, 1, 2, 3, 4, 5, 6, 7, 8, 9, 10, 11, 12, 13, 14, 15, 16, 17, 18], [0, 1, 2, 3, 4, 5, 6, 7, 8, 9, 10, 11, 12, 13, 14, 16, 15, 17, 18]] := ⟨⟩
  haveI : Plan 16 [142, 144, 145] [0, 1, 2, 3, 4, 5, 6, 7, 8] := ⟨⟩
  haveI : Plan 17 [150, 152] [0, 1, 2, 3, 4, 5, 6, 7] := ⟨⟩
  haveI : Plans 24 [191, 193, 195, 199, 202] [15, 16, 17, 18] [[0, 1, 2, 3, 4, 5, 6, 7, 8, 9, 10, 11, 12, 13, 14, 15, 16, 17, 18], [0, 1, 2, 3, 4, 5, 6, 7, 8, 9, 10, 11, 12, 13, 14, 16, 15, 17, 18]] := ⟨⟩
  haveI : Plan 25 [206, 208, 209] [0, 1, 2, 3, 4, 5, 6, 7, 8] := ⟨⟩
  haveI : Plan 26 [214, 216] [0, 1, 2, 3, 4, 5, 6, 7] := ⟨⟩
  haveI : Plans 33 [255, 257, 259, 263, 266] [15, 16, 17, 18] [[0, 1, 2, 3, 4, 5, 6, 7, 8, 9, 10, 11, 12, 13, 14, 15, 16, 17, 18], [0, 1, 2, 3, 4, 5, 6, 7, 8, 9, 10, 11, 12, 13, 14, 16, 15, 17, 18]] := ⟨⟩
  haveI : Plan 34 [270, 272, 273] [0, 1, 2, 3, 4, 5, 6, 7, 8] := ⟨⟩
  haveI : Plan 35 [278, 280] [0, 1, 2, 3, 4, 5, 6, 7] := ⟨⟩
  haveI : Plans 42 [319, 321, 323, 327, 330] [15, 16, 17, 18] [[0, 1, 2, 3, 4, 5, 6, 7, 8, 9, 10, 11, 12, 13, 14, 15, 16, 17, 18], [0, 1, 2, 3, 4, 5, 6, 7, 8, 9, 10, 11, 12, 13, 14, 16, 15, 17, 18]] := ⟨⟩
  haveI : Plan 43 [334, 336, 337] [0, 1, 2, 3, 4, 5, 6, 7, 8] := ⟨⟩
  haveI : Plan 44 [342, 344] [0, 1, 2, 3, 4, 5, 6, 7] := ⟨⟩
  haveI : Plans 51 [383, 385, 387, 391, 394] [15, 16, 17, 18] [[0, 1, 2, 3, 4, 5, 6, 7, 8, 9, 10, 11, 12, 13, 14, 15, 16, 17, 18], [0, 1, 2, 3, 4, 5, 6, 7, 8, 9, 10, 11, 12, 13, 14, 16, 15, 17, 18]] := ⟨⟩
  haveI : Plan 52 [398, 400, 401] [0, 1, 2, 3, 4, 5, 6, 7, 8] := ⟨⟩
  haveI : Plan 53 [406, 408] [0, 1, 2, 3, 4, 5, 6, 7] := ⟨⟩
  refine copent (d := e) (m := mt) (t := t) fun lt => ?_
  simp only [List.cons_append, List.nil_append]
  obtain ⟨s1, s2, s3, s4, s5, s6, s7, s8, s9, s10, s11⟩ := sz
  have zr : (t.recipes.zip mt.nd).length = t.recipes.length := by rw [List.length_zip, lt.1, Nat.min_self]
  have zs : (t.shops.zip mt.it).length = t.shops.length := by rw [List.length_zip, lt.2, Nat.min_self]
  refine go ?_
  refine ⟨?_, by simp⟩ <;> intros
  refine loop (σ := Nat × {l // l.Perm (t.rooms)}) (fun s => s.1 ≤ t.rooms.length) (fun s => [(0, .pointer (some ⟨e, 0, none⟩)), (2, .int .i64 (s.1 : Int))]) (fun s => blk e 67 (tabC mt t) :: sl Xr 112 mt.roA mt.roC s.2.1 :: sl Xp 133 mt.prA mt.prC t.protos :: sl Xm 77 mt.moA mt.moC t.mobs :: sl Xc 135 mt.reA mt.reC (t.recipes.zip mt.nd) :: sl Xq 137 mt.quA mt.quC t.quests :: sl Xs 81 mt.shA mt.shC (t.shops.zip mt.it) :: nest E64 3 (ndL t mt) :: nest E64 3 (itL t mt) :: Rs) (fun s => t.rooms.length - s.1) (0, ⟨t.rooms, .refl _⟩) (Nat.zero_le _) ?_
  rintro ⟨i, L1, hP1⟩ hi
  simp only at hi ⊢
  have hl0 : L1.length = t.rooms.length := hP1.length_eq.trans rfl
  by_cases hi2 : i < t.rooms.length
  case pos =>
    refine go ?_
    refine ⟨?_, by simp⟩ <;> intros
    refine loop (σ := Nat × {l // l.Perm (t.rooms)}) (fun s => s.1 < t.rooms.length) (fun s => [(0, .pointer (some ⟨e, 0, none⟩)), (2, .int .i64 (i : Int)), (3, .int .i64 (s.1 : Int))]) (fun s => blk e 67 (tabC mt t) :: sl Xr 112 mt.roA mt.roC s.2.1 :: sl Xp 133 mt.prA mt.prC t.protos :: sl Xm 77 mt.moA mt.moC t.mobs :: sl Xc 135 mt.reA mt.reC (t.recipes.zip mt.nd) :: sl Xq 137 mt.quA mt.quC t.quests :: sl Xs 81 mt.shA mt.shC (t.shops.zip mt.it) :: nest E64 3 (ndL t mt) :: nest E64 3 (itL t mt) :: Rs) (fun s => s.1) (i, ⟨L1, hP1⟩) hi2 ?_
    rintro ⟨k, l1, hp1⟩ hk
    simp only at hk ⊢
    have hl1 : l1.length = t.rooms.length := hp1.length_eq.trans rfl
    clear hl0
    by_cases hk0 : 0 < k
    · obtain ⟨x, hx⟩ : ∃ x, l1[k]? = some x := ⟨_, List.getElem?_eq_getElem (by omega)⟩
      obtain ⟨y, hy⟩ : ∃ y, l1[((k : Int) - 1).toNat]? = some y := ⟨_, List.getElem?_eq_getElem (by omega)⟩
      have hpm := (swap_perm (by omega) hy hx).trans hp1
      by_cases hxy : x.id < y.id
      · refine go ?_
        (repeat' (first | exact trivial | apply And.intro | intro _))
        all_goals (
          refine W.sta (En := Xr) (m := 10) (sz := 10) x (by exact rfl) (by exact rfl) (by (focus (with_reducible iterate 40 first | done | exact .here | apply Find.there); done)) rfl rfl (by omega) rfl rfl (by (first | exact Keep.nil | (focus ((repeat (first | exact Incl.nil | (apply Incl.cons; (focus (with_reducible iterate 40 first | done | exact .here | apply Find.there); done)))); first | done | fail)) | (focus (apply Keep.incl; (repeat (first | exact Incl.nil | (apply Incl.cons; (focus (with_reducible iterate 40 first | done | exact .here | apply Find.there); done)))); first | done | fail)) | exact Keep.free (by kernel_rfl))) ?_
          refine go ?_
          refine ⟨?_, by simp⟩
          refine W.sta (En := Xr) (m := 10) (sz := 10) y (by exact rfl) (by exact rfl) (by (focus (with_reducible iterate 40 first | done | exact .here | apply Find.there); done)) rfl rfl (by rw [List.length_set]; omega) rfl rfl (by (first | exact Keep.nil | (focus ((repeat (first | exact Incl.nil | (apply Incl.cons; (focus (with_reducible iterate 40 first | done | exact .here | apply Find.there); done)))); first | done | fail)) | (focus (apply Keep.incl; (repeat (first | exact Incl.nil | (apply Incl.cons; (focus (with_reducible iterate 40 first | done | exact .here | apply Find.there); done)))); first | done | fail)) | exact Keep.free (by kernel_rfl))) ?_
          refine go ?_
          refine ⟨?_, by simp⟩
          exact rnd (k - 1, ⟨_, hpm⟩) (by simp only; omega) (by simp only; omega) (hx := ⟨rfl, rfl, congrArg (fun z => some (Value.int .i64 z)) (by omega), trivial⟩))
      · clear hpm
        refine go ?_
        refine ⟨?_, by simp⟩ <;> intros
        exact rnd (i + 1, ⟨l1, hp1⟩) (by simp only; omega) (by simp only; omega)
    · refine go ?_
      refine ⟨?_, by simp⟩ <;> intros
      exact rnd (i + 1, ⟨l1, hp1⟩) (by simp only; omega) (by simp only; omega)
  have hi3 : i = t.rooms.length := by omega
  subst hi3
  clear hi2 hi
  refine go ?_
  refine ⟨?_, by simp⟩ <;> intros
  refine loop (σ := Nat × {l // l.Perm (t.protos)}) (fun s => s.1 ≤ t.protos.length) (fun s => [(0, .pointer (some ⟨e, 0, none⟩)), (6, .int .i64 (s.1 : Int))]) (fun s => blk e 67 (tabC mt t) :: sl Xp 133 mt.prA mt.prC s.2.1 :: sl Xr 112 mt.roA mt.roC L1 :: sl Xm 77 mt.moA mt.moC t.mobs :: sl Xc 135 mt.reA mt.reC (t.recipes.zip mt.nd) :: sl Xq 137 mt.quA mt.quC t.quests :: sl Xs 81 mt.shA mt.shC (t.shops.zip mt.it) :: nest E64 3 (ndL t mt) :: nest E64 3 (itL t mt) :: Rs) (fun s => t.protos.length - s.1) (0, ⟨t.protos, .refl _⟩) (Nat.zero_le _) ?_
  rintro ⟨i, L2, hP2⟩ hi
  simp only at hi ⊢
  have hl0 : L2.length = t.protos.length := hP2.length_eq.trans rfl
  by_cases hi2 : i < t.protos.length
  case pos =>
    refine go ?_
    refine ⟨?_, by simp⟩ <;> intros
    refine loop (σ := Nat × {l // l.Perm (t.protos)}) (fun s => s.1 < t.protos.length) (fun s => [(0, .pointer (some ⟨e, 0, none⟩)), (6, .int .i64 (i : Int)), (7, .int .i64 (s.1 : Int))]) (fun s => blk e 67 (tabC mt t) :: sl Xp 133 mt.prA mt.prC s.2.1 :: sl Xr 112 mt.roA mt.roC L1 :: sl Xm 77 mt.moA mt.moC t.mobs :: sl Xc 135 mt.reA mt.reC (t.recipes.zip mt.nd) :: sl Xq 137 mt.quA mt.quC t.quests :: sl Xs 81 mt.shA mt.shC (t.shops.zip mt.it) :: nest E64 3 (ndL t mt) :: nest E64 3 (itL t mt) :: Rs) (fun s => s.1) (i, ⟨L2, hP2⟩) hi2 ?_
    rintro ⟨k, l1, hp1⟩ hk
    simp only at hk ⊢
    have hl1 : l1.length = t.protos.length := hp1.length_eq.trans rfl
    clear hl0
    by_cases hk0 : 0 < k
    · obtain ⟨x, hx⟩ : ∃ x, l1[k]? = some x := ⟨_, List.getElem?_eq_getElem (by omega)⟩
      obtain ⟨y, hy⟩ : ∃ y, l1[((k : Int) - 1).toNat]? = some y := ⟨_, List.getElem?_eq_getElem (by omega)⟩
      have hpm := (swap_perm (by omega) hy hx).trans hp1
      by_cases hxy : x.id < y.id
      · refine go ?_
        (repeat' (first | exact trivial | apply And.intro | intro _))
        all_goals (
          refine W.sta (En := Xp) (m := 5) (sz := 5) x (by exact rfl) (by exact rfl) (by (focus (with_reducible iterate 40 first | done | exact .here | apply Find.there); done)) rfl rfl (by omega) rfl rfl (by (first | exact Keep.nil | (focus ((repeat (first | exact Incl.nil | (apply Incl.cons; (focus (with_reducible iterate 40 first | done | exact .here | apply Find.there); done)))); first | done | fail)) | (focus (apply Keep.incl; (repeat (first | exact Incl.nil | (apply Incl.cons; (focus (with_reducible iterate 40 first | done | exact .here | apply Find.there); done)))); first | done | fail)) | exact Keep.free (by kernel_rfl))) ?_
          refine go ?_
          refine ⟨?_, by simp⟩
          refine W.sta (En := Xp) (m := 5) (sz := 5) y (by exact rfl) (by exact rfl) (by (focus (with_reducible iterate 40 first | done | exact .here | apply Find.there); done)) rfl rfl (by rw [List.length_set]; omega) rfl rfl (by (first | exact Keep.nil | (focus ((repeat (first | exact Incl.nil | (apply Incl.cons; (focus (with_reducible iterate 40 first | done | exact .here | apply Find.there); done)))); first | done | fail)) | (focus (apply Keep.incl; (repeat (first | exact Incl.nil | (apply Incl.cons; (focus (with_reducible iterate 40 first | done | exact .here | apply Find.there); done)))); first | done | fail)) | exact Keep.free (by kernel_rfl))) ?_
          refine go ?_
          refine ⟨?_, by simp⟩
          exact rnd (k - 1, ⟨_, hpm⟩) (by simp only; omega) (by simp only; omega) (hx := ⟨rfl, rfl, congrArg (fun z => some (Value.int .i64 z)) (by omega), trivial⟩))
      · clear hpm
        refine go ?_
        refine ⟨?_, by simp⟩ <;> intros
        exact rnd (i + 1, ⟨l1, hp1⟩) (by simp only; omega) (by simp only; omega)
    · refine go ?_
      refine ⟨?_, by simp⟩ <;> intros
      exact rnd (i + 1, ⟨l1, hp1⟩) (by simp only; omega) (by simp only; omega)
  have hi3 : i = t.protos.length := by omega
  subst hi3
  clear hi2 hi
  refine go ?_
  refine ⟨?_, by simp⟩ <;> intros
  refine loop (σ := Nat × {l // l.Perm (t.mobs)}) (fun s => s.1 ≤ t.mobs.length) (fun s => [(0, .pointer (some ⟨e, 0, none⟩)), (10, .int .i64 (s.1 : Int))]) (fun s => blk e 67 (tabC mt t) :: sl Xm 77 mt.moA mt.moC s.2.1 :: sl Xr 112 mt.roA mt.roC L1 :: sl Xp 133 mt.prA mt.prC L2 :: sl Xc 135 mt.reA mt.reC (t.recipes.zip mt.nd) :: sl Xq 137 mt.quA mt.quC t.quests :: sl Xs 81 mt.shA mt.shC (t.shops.zip mt.it) :: nest E64 3 (ndL t mt) :: nest E64 3 (itL t mt) :: Rs) (fun s => t.mobs.length - s.1) (0, ⟨t.mobs, .refl _⟩) (Nat.zero_le _) ?_
  rintro ⟨i, L3, hP3⟩ hi
  simp only at hi ⊢
  have hl0 : L3.length = t.mobs.length := hP3.length_eq.trans rfl
  by_cases hi2 : i < t.mobs.length
  case pos =>
    refine go ?_
    refine ⟨?_, by simp⟩ <;> intros
    refine loop (σ := Nat × {l // l.Perm (t.mobs)}) (fun s => s.1 < t.mobs.length) (fun s => [(0, .pointer (some ⟨e, 0, none⟩)), (10, .int .i64 (i : Int)), (11, .int .i64 (s.1 : Int))]) (fun s => blk e 67 (tabC mt t) :: sl Xm 77 mt.moA mt.moC s.2.1 :: sl Xr 112 mt.roA mt.roC L1 :: sl Xp 133 mt.prA mt.prC L2 :: sl Xc 135 mt.reA mt.reC (t.recipes.zip mt.nd) :: sl Xq 137 mt.quA mt.quC t.quests :: sl Xs 81 mt.shA mt.shC (t.shops.zip mt.it) :: nest E64 3 (ndL t mt) :: nest E64 3 (itL t mt) :: Rs) (fun s => s.1) (i, ⟨L3, hP3⟩) hi2 ?_
    rintro ⟨k, l1, hp1⟩ hk
    simp only at hk ⊢
    have hl1 : l1.length = t.mobs.length := hp1.length_eq.trans rfl
    clear hl0
    by_cases hk0 : 0 < k
    · obtain ⟨x, hx⟩ : ∃ x, l1[k]? = some x := ⟨_, List.getElem?_eq_getElem (by omega)⟩
      obtain ⟨y, hy⟩ : ∃ y, l1[((k : Int) - 1).toNat]? = some y := ⟨_, List.getElem?_eq_getElem (by omega)⟩
      have hpm := (swap_perm (by omega) hy hx).trans hp1
      by_cases hxy : x.id < y.id
      · refine go ?_
        (repeat' (first | exact trivial | apply And.intro | intro _))
        all_goals (
          refine W.sta (En := Xm) (m := 7) (sz := 7) x (by exact rfl) (by exact rfl) (by (focus (with_reducible iterate 40 first | done | exact .here | apply Find.there); done)) rfl rfl (by omega) rfl rfl (by (first | exact Keep.nil | (focus ((repeat (first | exact Incl.nil | (apply Incl.cons; (focus (with_reducible iterate 40 first | done | exact .here | apply Find.there); done)))); first | done | fail)) | (focus (apply Keep.incl; (repeat (first | exact Incl.nil | (apply Incl.cons; (focus (with_reducible iterate 40 first | done | exact .here | apply Find.there); done)))); first | done | fail)) | exact Keep.free (by kernel_rfl))) ?_
          refine go ?_
          refine ⟨?_, by simp⟩
          refine W.sta (En := Xm) (m := 7) (sz := 7) y (by exact rfl) (by exact rfl) (by (focus (with_reducible iterate 40 first | done | exact .here | apply Find.there); done)) rfl rfl (by rw [List.length_set]; omega) rfl rfl (by (first | exact Keep.nil | (focus ((repeat (first | exact Incl.nil | (apply Incl.cons; (focus (with_reducible iterate 40 first | done | exact .here | apply Find.there); done)))); first | done | fail)) | (focus (apply Keep.incl; (repeat (first | exact Incl.nil | (apply Incl.cons; (focus (with_reducible iterate 40 first | done | exact .here | apply Find.there); done)))); first | done | fail)) | exact Keep.free (by kernel_rfl))) ?_
          refine go ?_
          refine ⟨?_, by simp⟩
          exact rnd (k - 1, ⟨_, hpm⟩) (by simp only; omega) (by simp only; omega) (hx := ⟨rfl, rfl, congrArg (fun z => some (Value.int .i64 z)) (by omega), trivial⟩))
      · clear hpm
        refine go ?_
        refine ⟨?_, by simp⟩ <;> intros
        exact rnd (i + 1, ⟨l1, hp1⟩) (by simp only; omega) (by simp only; omega)
    · refine go ?_
      refine ⟨?_, by simp⟩ <;> intros
      exact rnd (i + 1, ⟨l1, hp1⟩) (by simp only; omega) (by simp only; omega)
  have hi3 : i = t.mobs.length := by omega
  subst hi3
  clear hi2 hi
  refine go ?_
  refine ⟨?_, by simp⟩ <;> intros
  refine loop (σ := Nat × {l // l.Perm ((t.recipes.zip mt.nd))}) (fun s => s.1 ≤ t.recipes.length) (fun s => [(0, .pointer (some ⟨e, 0, none⟩)), (14, .int .i64 (s.1 : Int))]) (fun s => blk e 67 (tabC mt t) :: sl Xc 135 mt.reA mt.reC s.2.1 :: sl Xr 112 mt.roA mt.roC L1 :: sl Xp 133 mt.prA mt.prC L2 :: sl Xm 77 mt.moA mt.moC L3 :: sl Xq 137 mt.quA mt.quC t.quests :: sl Xs 81 mt.shA mt.shC (t.shops.zip mt.it) :: nest E64 3 (ndL t mt) :: nest E64 3 (itL t mt) :: Rs) (fun s => t.recipes.length - s.1) (0, ⟨(t.recipes.zip mt.nd), .refl _⟩) (Nat.zero_le _) ?_
  rintro ⟨i, L4, hP4⟩ hi
  simp only at hi ⊢
  have hl0 : L4.length = t.recipes.length := hP4.length_eq.trans zr
  by_cases hi2 : i < t.recipes.length
  case pos =>
    refine go ?_
    refine ⟨?_, by simp⟩ <;> intros
    refine loop (σ := Nat × {l // l.Perm ((t.recipes.zip mt.nd))}) (fun s => s.1 < t.recipes.length) (fun s => [(0, .pointer (some ⟨e, 0, none⟩)), (14, .int .i64 (i : Int)), (15, .int .i64 (s.1 : Int))]) (fun s => blk e 67 (tabC mt t) :: sl Xc 135 mt.reA mt.reC s.2.1 :: sl Xr 112 mt.roA mt.roC L1 :: sl Xp 133 mt.prA mt.prC L2 :: sl Xm 77 mt.moA mt.moC L3 :: sl Xq 137 mt.quA mt.quC t.quests :: sl Xs 81 mt.shA mt.shC (t.shops.zip mt.it) :: nest E64 3 (ndL t mt) :: nest E64 3 (itL t mt) :: Rs) (fun s => s.1) (i, ⟨L4, hP4⟩) hi2 ?_
    rintro ⟨k, l1, hp1⟩ hk
    simp only at hk ⊢
    have hl1 : l1.length = t.recipes.length := hp1.length_eq.trans zr
    clear hl0
    by_cases hk0 : 0 < k
    · obtain ⟨x, hx⟩ : ∃ x, l1[k]? = some x := ⟨_, List.getElem?_eq_getElem (by omega)⟩
      obtain ⟨y, hy⟩ : ∃ y, l1[((k : Int) - 1).toNat]? = some y := ⟨_, List.getElem?_eq_getElem (by omega)⟩
      have hpm := (swap_perm (by omega) hy hx).trans hp1
      by_cases hxy : x.1.out < y.1.out
      · refine go ?_
        (repeat' (first | exact trivial | apply And.intro | intro _))
        all_goals (
          refine W.sta (En := Xc) (m := 2) (sz := 2) x (by exact rfl) (by exact rfl) (by (focus (with_reducible iterate 40 first | done | exact .here | apply Find.there); done)) rfl rfl (by omega) rfl rfl (by (first | exact Keep.nil | (focus ((repeat (first | exact Incl.nil | (apply Incl.cons; (focus (with_reducible iterate 40 first | done | exact .here | apply Find.there); done)))); first | done | fail)) | (focus (apply Keep.incl; (repeat (first | exact Incl.nil | (apply Incl.cons; (focus (with_reducible iterate 40 first | done | exact .here | apply Find.there); done)))); first | done | fail)) | exact Keep.free (by kernel_rfl))) ?_
          refine go ?_
          refine ⟨?_, by simp⟩
          refine W.sta (En := Xc) (m := 2) (sz := 2) y (by exact rfl) (by exact rfl) (by (focus (with_reducible iterate 40 first | done | exact .here | apply Find.there); done)) rfl rfl (by rw [List.length_set]; omega) rfl rfl (by (first | exact Keep.nil | (focus ((repeat (first | exact Incl.nil | (apply Incl.cons; (focus (with_reducible iterate 40 first | done | exact .here | apply Find.there); done)))); first | done | fail)) | (focus (apply Keep.incl; (repeat (first | exact Incl.nil | (apply Incl.cons; (focus (with_reducible iterate 40 first | done | exact .here | apply Find.there); done)))); first | done | fail)) | exact Keep.free (by kernel_rfl))) ?_
          refine go ?_
          refine ⟨?_, by simp⟩
          exact rnd (k - 1, ⟨_, hpm⟩) (by simp only; omega) (by simp only; omega) (hx := ⟨rfl, rfl, congrArg (fun z => some (Value.int .i64 z)) (by omega), trivial⟩))
      · clear hpm
        refine go ?_
        refine ⟨?_, by simp⟩ <;> intros
        exact rnd (i + 1, ⟨l1, hp1⟩) (by simp only; omega) (by simp only; omega)
    · refine go ?_
      refine ⟨?_, by simp⟩ <;> intros
      exact rnd (i + 1, ⟨l1, hp1⟩) (by simp only; omega) (by simp only; omega)
  have hi3 : i = t.recipes.length := by omega
  subst hi3
  clear hi2 hi
  refine go ?_
  refine ⟨?_, by simp⟩ <;> intros
  refine loop (σ := Nat × {l // l.Perm (t.quests)}) (fun s => s.1 ≤ t.quests.length) (fun s => [(0, .pointer (some ⟨e, 0, none⟩)), (18, .int .i64 (s.1 : Int))]) (fun s => blk e 67 (tabC mt t) :: sl Xq 137 mt.quA mt.quC s.2.1 :: sl Xr 112 mt.roA mt.roC L1 :: sl Xp 133 mt.prA mt.prC L2 :: sl Xm 77 mt.moA mt.moC L3 :: sl Xc 135 mt.reA mt.reC L4 :: sl Xs 81 mt.shA mt.shC (t.shops.zip mt.it) :: nest E64 3 (ndL t mt) :: nest E64 3 (itL t mt) :: Rs) (fun s => t.quests.length - s.1) (0, ⟨t.quests, .refl _⟩) (Nat.zero_le _) ?_
  rintro ⟨i, L5, hP5⟩ hi
  simp only at hi ⊢
  have hl0 : L5.length = t.quests.length := hP5.length_eq.trans rfl
  by_cases hi2 : i < t.quests.length
  case pos =>
    refine go ?_
    refine ⟨?_, by simp⟩ <;> intros
    refine loop (σ := Nat × {l // l.Perm (t.quests)}) (fun s => s.1 < t.quests.length) (fun s => [(0, .pointer (some ⟨e, 0, none⟩)), (18, .int .i64 (i : Int)), (19, .int .i64 (s.1 : Int))]) (fun s => blk e 67 (tabC mt t) :: sl Xq 137 mt.quA mt.quC s.2.1 :: sl Xr 112 mt.roA mt.roC L1 :: sl Xp 133 mt.prA mt.prC L2 :: sl Xm 77 mt.moA mt.moC L3 :: sl Xc 135 mt.reA mt.reC L4 :: sl Xs 81 mt.shA mt.shC (t.shops.zip mt.it) :: nest E64 3 (ndL t mt) :: nest E64 3 (itL t mt) :: Rs) (fun s => s.1) (i, ⟨L5, hP5⟩) hi2 ?_
    rintro ⟨k, l1, hp1⟩ hk
    simp only at hk ⊢
    have hl1 : l1.length = t.quests.length := hp1.length_eq.trans rfl
    clear hl0
    by_cases hk0 : 0 < k
    · obtain ⟨x, hx⟩ : ∃ x, l1[k]? = some x := ⟨_, List.getElem?_eq_getElem (by omega)⟩
      obtain ⟨y, hy⟩ : ∃ y, l1[((k : Int) - 1).toNat]? = some y := ⟨_, List.getElem?_eq_getElem (by omega)⟩
      have hpm := (swap_perm (by omega) hy hx).trans hp1
      by_cases hxy : x.id < y.id
      · refine go ?_
        (repeat' (first | exact trivial | apply And.intro | intro _))
        all_goals (
          refine W.sta (En := Xq) (m := 5) (sz := 5) x (by exact rfl) (by exact rfl) (by (focus (with_reducible iterate 40 first | done | exact .here | apply Find.there); done)) rfl rfl (by omega) rfl rfl (by (first | exact Keep.nil | (focus ((repeat (first | exact Incl.nil | (apply Incl.cons; (focus (with_reducible iterate 40 first | done | exact .here | apply Find.there); done)))); first | done | fail)) | (focus (apply Keep.incl; (repeat (first | exact Incl.nil | (apply Incl.cons; (focus (with_reducible iterate 40 first | done | exact .here | apply Find.there); done)))); first | done | fail)) | exact Keep.free (by kernel_rfl))) ?_
          refine go ?_
          refine ⟨?_, by simp⟩
          refine W.sta (En := Xq) (m := 5) (sz := 5) y (by exact rfl) (by exact rfl) (by (focus (with_reducible iterate 40 first | done | exact .here | apply Find.there); done)) rfl rfl (by rw [List.length_set]; omega) rfl rfl (by (first | exact Keep.nil | (focus ((repeat (first | exact Incl.nil | (apply Incl.cons; (focus (with_reducible iterate 40 first | done | exact .here | apply Find.there); done)))); first | done | fail)) | (focus (apply Keep.incl; (repeat (first | exact Incl.nil | (apply Incl.cons; (focus (with_reducible iterate 40 first | done | exact .here | apply Find.there); done)))); first | done | fail)) | exact Keep.free (by kernel_rfl))) ?_
          refine go ?_
          refine ⟨?_, by simp⟩
          exact rnd (k - 1, ⟨_, hpm⟩) (by simp only; omega) (by simp only; omega) (hx := ⟨rfl, rfl, congrArg (fun z => some (Value.int .i64 z)) (by omega), trivial⟩))
      · clear hpm
        refine go ?_
        refine ⟨?_, by simp⟩ <;> intros
        exact rnd (i + 1, ⟨l1, hp1⟩) (by simp only; omega) (by simp only; omega)
    · refine go ?_
      refine ⟨?_, by simp⟩ <;> intros
      exact rnd (i + 1, ⟨l1, hp1⟩) (by simp only; omega) (by simp only; omega)
  have hi3 : i = t.quests.length := by omega
  subst hi3
  clear hi2 hi
  refine go ?_
  refine ⟨?_, by simp⟩ <;> intros
  refine loop (σ := Nat × {l // l.Perm ((t.shops.zip mt.it))}) (fun s => s.1 ≤ t.shops.length) (fun s => [(0, .pointer (some ⟨e, 0, none⟩)), (22, .int .i64 (s.1 : Int))]) (fun s => blk e 67 (tabC mt t) :: sl Xs 81 mt.shA mt.shC s.2.1 :: sl Xr 112 mt.roA mt.roC L1 :: sl Xp 133 mt.prA mt.prC L2 :: sl Xm 77 mt.moA mt.moC L3 :: sl Xc 135 mt.reA mt.reC L4 :: sl Xq 137 mt.quA mt.quC L5 :: nest E64 3 (ndL t mt) :: nest E64 3 (itL t mt) :: Rs) (fun s => t.shops.length - s.1) (0, ⟨(t.shops.zip mt.it), .refl _⟩) (Nat.zero_le _) ?_
  rintro ⟨i, L6, hP6⟩ hi
  simp only at hi ⊢
  have hl0 : L6.length = t.shops.length := hP6.length_eq.trans zs
  by_cases hi2 : i < t.shops.length
  case pos =>
    refine go ?_
    refine ⟨?_, by simp⟩ <;> intros
    refine loop (σ := Nat × {l // l.Perm ((t.shops.zip mt.it))}) (fun s => s.1 < t.shops.length) (fun s => [(0, .pointer (some ⟨e, 0, none⟩)), (22, .int .i64 (i : Int)), (23, .int .i64 (s.1 : Int))]) (fun s => blk e 67 (tabC mt t) :: sl Xs 81 mt.shA mt.shC s.2.1 :: sl Xr 112 mt.roA mt.roC L1 :: sl Xp 133 mt.prA mt.prC L2 :: sl Xm 77 mt.moA mt.moC L3 :: sl Xc 135 mt.reA mt.reC L4 :: sl Xq 137 mt.quA mt.quC L5 :: nest E64 3 (ndL t mt) :: nest E64 3 (itL t mt) :: Rs) (fun s => s.1) (i, ⟨L6, hP6⟩) hi2 ?_
    rintro ⟨k, l1, hp1⟩ hk
    simp only at hk ⊢
    have hl1 : l1.length = t.shops.length := hp1.length_eq.trans zs
    clear hl0
    by_cases hk0 : 0 < k
    · obtain ⟨x, hx⟩ : ∃ x, l1[k]? = some x := ⟨_, List.getElem?_eq_getElem (by omega)⟩
      obtain ⟨y, hy⟩ : ∃ y, l1[((k : Int) - 1).toNat]? = some y := ⟨_, List.getElem?_eq_getElem (by omega)⟩
      have hpm := (swap_perm (by omega) hy hx).trans hp1
      by_cases hxy : x.1.room < y.1.room
      · refine go ?_
        (repeat' (first | exact trivial | apply And.intro | intro _))
        all_goals (
          refine W.sta (En := Xs) (m := 3) (sz := 3) x (by exact rfl) (by exact rfl) (by (focus (with_reducible iterate 40 first | done | exact .here | apply Find.there); done)) rfl rfl (by omega) rfl rfl (by (first | exact Keep.nil | (focus ((repeat (first | exact Incl.nil | (apply Incl.cons; (focus (with_reducible iterate 40 first | done | exact .here | apply Find.there); done)))); first | done | fail)) | (focus (apply Keep.incl; (repeat (first | exact Incl.nil | (apply Incl.cons; (focus (with_reducible iterate 40 first | done | exact .here | apply Find.there); done)))); first | done | fail)) | exact Keep.free (by kernel_rfl))) ?_
          refine go ?_
          refine ⟨?_, by simp⟩
          refine W.sta (En := Xs) (m := 3) (sz := 3) y (by exact rfl) (by exact rfl) (by (focus (with_reducible iterate 40 first | done | exact .here | apply Find.there); done)) rfl rfl (by rw [List.length_set]; omega) rfl rfl (by (first | exact Keep.nil | (focus ((repeat (first | exact Incl.nil | (apply Incl.cons; (focus (with_reducible iterate 40 first | done | exact .here | apply Find.there); done)))); first | done | fail)) | (focus (apply Keep.incl; (repeat (first | exact Incl.nil | (apply Incl.cons; (focus (with_reducible iterate 40 first | done | exact .here | apply Find.there); done)))); first | done | fail)) | exact Keep.free (by kernel_rfl))) ?_
          refine go ?_
          refine ⟨?_, by simp⟩
          exact rnd (k - 1, ⟨_, hpm⟩) (by simp only; omega) (by simp only; omega) (hx := ⟨rfl, rfl, congrArg (fun z => some (Value.int .i64 z)) (by omega), trivial⟩))
      · clear hpm
        refine go ?_
        refine ⟨?_, by simp⟩ <;> intros
        exact rnd (i + 1, ⟨l1, hp1⟩) (by simp only; omega) (by simp only; omega)
    · refine go ?_
      refine ⟨?_, by simp⟩ <;> intros
      exact rnd (i + 1, ⟨l1, hp1⟩) (by simp only; omega) (by simp only; omega)
  have hi3 : i = t.shops.length := by omega
  subst hi3
  clear hi2 hi
  refine go ?_
  refine ⟨?_, by simp⟩ <;> intros
  refine E.one (A := nest E64 3 (ndL t mt)) (C := nest E64 3 (L4.map fun p => (p.1.needs, p.2))) (by (focus (with_reducible iterate 40 first | done | exact .here | apply Find.there); done)) (fun st h => nest_perm ((hP4.map fun p : Rcp × PA => (p.1.needs, p.2)).symm) h) ?_
  refine E.one (A := nest E64 3 (itL t mt)) (C := nest E64 3 (L6.map fun p => (p.1.items, p.2))) (by (focus (with_reducible iterate 40 first | done | exact .here | apply Find.there); done)) (fun st h => nest_perm ((hP6.map fun p : Shp × PA => (p.1.items, p.2)).symm) h) ?_
  have e1 := hP1.length_eq
  have e2 := hP2.length_eq
  have e3 := hP3.length_eq
  have e4 := hP4.length_eq.trans zr
  have e5 := hP5.length_eq
  have e6 := hP6.length_eq.trans zs
  refine efoldt e { mt with nd := L4.map Prod.snd, it := L6.map Prod.snd } ⟨L1, L2, L3, L4.map Prod.fst, L5, L6.map Prod.fst⟩ ⟨by simp only [List.length_map], by simp only [List.length_map]⟩ ?_ (he := by simp only [tabC, ndL, itL, zip_unzip, List.length_map, e1, e2, e3, e4, e5, e6]; (focus ((repeat (first | exact Ent.done | with_reducible exact Ent.same | (apply Ent.take; (first | (focus (with_reducible iterate 40 first | done | exact .here | apply Find.there); done) | (focus (iterate 40 first | done | exact .here | apply Find.there); done))) | (apply Ent.emp (sl_emp _ _)) | apply Ent.drop)); first | done | fail)))
  exact ret0 ⟨_, ⟨⟨L1, L2, L3, L4.map Prod.fst, L5, L6.map Prod.fst⟩, ⟨by simp only; omega, by simp only; omega, by simp only; omega, by simp only [List.length_map]; omega, by simp only; omega, by simp only [List.length_map]; omega,
    fun x hx => s7 x (hP1.mem_iff.1 hx), fun x hx => s8 x (hP2.mem_iff.1 hx), fun x hx => s9 x (hP3.mem_iff.1 hx),
    fun x hx => by
      obtain ⟨p, hp, rfl⟩ := List.mem_map.1 hx
      exact s10 _ (List.of_mem_zip (hP4.mem_iff.1 hp)).1,
    fun x hx => by
      obtain ⟨p, hp, rfl⟩ := List.mem_map.1 hx
      exact s11 _ (List.of_mem_zip (hP6.mem_iff.1 hp)).1⟩⟩, rfl, rfl⟩
end Go.Proofs.YtlibnpdbcjgegaaGreat
