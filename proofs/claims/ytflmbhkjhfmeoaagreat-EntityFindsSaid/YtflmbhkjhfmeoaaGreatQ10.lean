/-
  Walks and laws joined: WoGo WdPut WdKnow WdNewP EnGen.
-/
import Derived.Test.YtflmbhkjhfmeoaaGreatQ09
import Derived.Test.YtflmbhkjhfmeoaaGreatQ04
import Derived.Test.YtflmbhkjhfmeoaaGreatQ02
set_option linter.unusedVariables false
set_option linter.unusedSimpArgs false
namespace Go.Proofs.YtflmbhkjhfmeoaaGreat
open Go.SL
set_option maxRecDepth 100000
theorem get_set {α : Type} {l : List α} {k : Nat} {x y : α} (h : l[k]? = some x) : (l.set k y)[k]? = some y := by
  have := (List.getElem?_eq_some_iff.1 h).1
  simp [this]
theorem get_zip {α β : Type} {l : List α} {m : List β} {i : Nat} {x : α} {y : β} (h : l[i]? = some x) (h' : m[i]? = some y) : (l.zip m)[i]? = some (x, y) := List.getElem?_zip_eq_some.2 ⟨h, h'⟩
theorem goW {p q1 q2 q3 q4 q5 q6 q7 q8 q9 q10 q11 q12 q13 q14 : Prop} (hres : q1 ∧ q2 ∧ q3 ∧ q4 ∧ q5 ∧ q6 ∧ q7 ∧ q8 ∧ q9 ∧ q10 ∧ q11 ∧ q12 ∧ q13 ∧ q14) (h : Bx q1 → Bx q2 → Bx q3 → Bx q4 → Bx q5 → Bx q6 → Bx q7 → Bx q8 → Bx q9 → Bx q10 → Bx q11 → Bx q12 → Bx q13 → Bx q14 → p := by (intro r1 r2 r3 r4 r5 r6 r7 r8 r9 r10 r11 r12 r13 r14; (refine (fun (m : _) (_ : True) => m) ?_ ?_); (focus ((repeat' (first | refine W.move rfl rfl ?_ | refine W.assign rfl rfl ?_ | refine W.nilCheck rfl rfl ?_ | (show W _ _ _ _ _ _ _ (⟨_, .load _ _, _, _, _, none⟩ :: _) _ _; first | (apply W.load; exact rfl; (exact find_); exact rfl; exact rfl; exact rfl) | (refine W.ld0 rfl (by (focus (iterate 40 first | done | (apply FindS.here; (first | exact reads_sl | assumption | exact Rd.reads | fail)) | apply FindS.there); done)) (by exact rfl) (by first | assumption | exact get_set (by assumption) | exact get_set (get_set (by assumption)) | exact get_zip (by first | assumption | exact get_set (by assumption) | exact get_set (get_set (by assumption)) | fail) (by assumption) | exact List.getElem?_eq_getElem (by omega) | fail) (by exact rfl) rfl rfl ?_) | (refine W.ldj rfl (by (focus (iterate 40 first | done | (apply FindS.here; (first | exact reads_sl | assumption | exact Rd.reads | fail)) | apply FindS.there); done)) (by exact rfl) (by first | assumption | exact get_set (by assumption) | exact get_set (get_set (by assumption)) | exact get_zip (by first | assumption | exact get_set (by assumption) | exact get_set (get_set (by assumption)) | fail) (by assumption) | exact List.getElem?_eq_getElem (by omega) | fail) (by exact rfl) rfl rfl ?_) | (refine W.ldc rfl (by (focus (iterate 40 first | done | (apply FindC.here; exact Cel.cell) | apply FindC.there); done)) rfl rfl ?_) | (apply W.load_stay; exact rfl; (exact find_); exact rfl; exact rfl; exact rfl) | (refine W.ld0_stay rfl (by (focus (iterate 40 first | done | (apply FindS.here; (first | exact reads_sl | assumption | exact Rd.reads | fail)) | apply FindS.there); done)) (by exact rfl) (by first | assumption | exact get_set (by assumption) | exact get_set (get_set (by assumption)) | exact get_zip (by first | assumption | exact get_set (by assumption) | exact get_set (get_set (by assumption)) | fail) (by assumption) | exact List.getElem?_eq_getElem (by omega) | fail) (by exact rfl) rfl rfl ?_) | (refine W.ldj_stay rfl (by (focus (iterate 40 first | done | (apply FindS.here; (first | exact reads_sl | assumption | exact Rd.reads | fail)) | apply FindS.there); done)) (by exact rfl) (by first | assumption | exact get_set (by assumption) | exact get_set (get_set (by assumption)) | exact get_zip (by first | assumption | exact get_set (by assumption) | exact get_set (get_set (by assumption)) | fail) (by assumption) | exact List.getElem?_eq_getElem (by omega) | fail) (by exact rfl) rfl rfl ?_) | (refine W.ldc_stay rfl (by (focus (iterate 40 first | done | (apply FindC.here; exact Cel.cell) | apply FindC.there); done)) rfl rfl ?_) | (apply W.agg_all; exact rfl; (exact find_); exact rfl; exact rfl; exact rfl) | (apply W.agg_stay; exact rfl; (exact find_); exact rfl; exact rfl; exact rfl) | (refine W.lda0_stay rfl (by (focus (iterate 40 first | done | (apply FindS.here; (first | exact reads_sl | assumption | exact Rd.reads | fail)) | apply FindS.there); done)) (by exact rfl) (by first | assumption | exact get_set (by assumption) | exact get_set (get_set (by assumption)) | exact get_zip (by first | assumption | exact get_set (by assumption) | exact get_set (get_set (by assumption)) | fail) (by assumption) | exact List.getElem?_eq_getElem (by omega) | fail) (by exact rfl) rfl rfl ?_) | (refine W.lda0 rfl (by (focus (iterate 40 first | done | (apply FindS.here; (first | exact reads_sl | assumption | exact Rd.reads | fail)) | apply FindS.there); done)) (by exact rfl) (by first | assumption | exact get_set (by assumption) | exact get_set (get_set (by assumption)) | exact get_zip (by first | assumption | exact get_set (by assumption) | exact get_set (get_set (by assumption)) | fail) (by assumption) | exact List.getElem?_eq_getElem (by omega) | fail) (by exact rfl) rfl rfl ?_) | (refine W.lda rfl rfl (by (focus (iterate 40 first | done | (apply FindS.here; (first | exact reads_sl | assumption | exact Rd.reads | fail)) | apply FindS.there); done)) (by exact rfl) (by first | assumption | exact get_set (by assumption) | exact get_set (get_set (by assumption)) | exact get_zip (by first | assumption | exact get_set (by assumption) | exact get_set (get_set (by assumption)) | fail) (by assumption) | exact List.getElem?_eq_getElem (by omega) | fail) (by exact rfl) rfl rfl rfl ?_) | (apply W.agg; exact rfl; (exact find_); exact rfl; exact rfl; exact rfl; exact rfl) | fail) | (show W _ _ _ _ _ _ _ (⟨_, .binOp _ _ _ _ _, _, _, _, none⟩ :: _) _ _; first | refine W.cmp rfl rfl rfl rfl ?_ | (refine W.ari rfl rfl (ari_add rfl (by first | omega | (simp only [List.length_append, List.length_cons, List.length_nil, List.length_set, List.length_map, List.length_take, List.length_drop, List.length_replicate]; omega) | fail) (by first | omega | (simp only [List.length_append, List.length_cons, List.length_nil, List.length_set, List.length_map, List.length_take, List.length_drop, List.length_replicate]; omega) | fail)) rfl ?_) | (refine W.ari rfl rfl (ari_sub rfl (by first | omega | (simp only [List.length_append, List.length_cons, List.length_nil, List.length_set, List.length_map, List.length_take, List.length_drop, List.length_replicate]; omega) | fail) (by first | omega | (simp only [List.length_append, List.length_cons, List.length_nil, List.length_set, List.length_map, List.length_take, List.length_drop, List.length_replicate]; omega) | fail)) rfl ?_) | (refine W.ari rfl rfl (ari_mul rfl (by first | omega | (simp only [List.length_append, List.length_cons, List.length_nil, List.length_set, List.length_map, List.length_take, List.length_drop, List.length_replicate]; omega) | fail) (by first | omega | (simp only [List.length_append, List.length_cons, List.length_nil, List.length_set, List.length_map, List.length_take, List.length_drop, List.length_replicate]; omega) | fail)) rfl ?_) | (refine W.ari rfl rfl (ari8_add rfl (by first | omega | (simp only [List.length_append, List.length_cons, List.length_nil, List.length_set, List.length_map, List.length_take, List.length_drop, List.length_replicate]; omega) | fail) (by first | omega | (simp only [List.length_append, List.length_cons, List.length_nil, List.length_set, List.length_map, List.length_take, List.length_drop, List.length_replicate]; omega) | fail)) rfl ?_) | (refine W.ari rfl rfl (ari8_sub rfl (by first | omega | (simp only [List.length_append, List.length_cons, List.length_nil, List.length_set, List.length_map, List.length_take, List.length_drop, List.length_replicate]; omega) | fail) (by first | omega | (simp only [List.length_append, List.length_cons, List.length_nil, List.length_set, List.length_map, List.length_take, List.length_drop, List.length_replicate]; omega) | fail)) rfl ?_) | (refine W.ari rfl rfl (ariu_add rfl (by first | omega | (simp only [List.length_append, List.length_cons, List.length_nil, List.length_set, List.length_map, List.length_take, List.length_drop, List.length_replicate]; omega) | fail) (by first | omega | (simp only [List.length_append, List.length_cons, List.length_nil, List.length_set, List.length_map, List.length_take, List.length_drop, List.length_replicate]; omega) | fail)) rfl ?_) | (refine W.ari rfl rfl (ariu_sub rfl (by first | omega | (simp only [List.length_append, List.length_cons, List.length_nil, List.length_set, List.length_map, List.length_take, List.length_drop, List.length_replicate]; omega) | fail) (by first | omega | (simp only [List.length_append, List.length_cons, List.length_nil, List.length_set, List.length_map, List.length_take, List.length_drop, List.length_replicate]; omega) | fail)) rfl ?_) | (refine W.quo rfl rfl (by decide) (quo64 (by first | omega | (simp only [List.length_append, List.length_cons, List.length_nil, List.length_set, List.length_map, List.length_take, List.length_drop, List.length_replicate]; omega) | fail) (by decide) (by first | omega | (simp only [List.length_append, List.length_cons, List.length_nil, List.length_set, List.length_map, List.length_take, List.length_drop, List.length_replicate]; omega) | fail)) rfl ?_) | (refine W.rem rfl rfl (by decide) (rem64 (by first | omega | (simp only [List.length_append, List.length_cons, List.length_nil, List.length_set, List.length_map, List.length_take, List.length_drop, List.length_replicate]; omega) | fail)) rfl ?_) | (refine W.quo rfl rfl (by decide) (quo64n (by first | omega | (simp only [List.length_append, List.length_cons, List.length_nil, List.length_set, List.length_map, List.length_take, List.length_drop, List.length_replicate]; omega) | fail) (by decide) (by first | omega | (simp only [List.length_append, List.length_cons, List.length_nil, List.length_set, List.length_map, List.length_take, List.length_drop, List.length_replicate]; omega) | fail)) rfl ?_) | (refine W.rem rfl rfl (by decide) (rem64n (by first | omega | (simp only [List.length_append, List.length_cons, List.length_nil, List.length_set, List.length_map, List.length_take, List.length_drop, List.length_replicate]; omega) | fail)) rfl ?_) | refine W.cmp_str rfl rfl rfl rfl ?_ | refine W.eqn_s rfl rfl rfl ?_ | refine W.nen_s rfl rfl rfl ?_ | refine W.eqn_n rfl rfl rfl ?_ | refine W.nen_n rfl rfl rfl ?_ | refine W.eq_nil rfl rfl rfl ?_ | refine W.ne_nil rfl rfl rfl ?_ | (refine W.bool_eq rfl rfl rfl ?_) | (refine W.bool_ne rfl rfl rfl ?_) | (refine W.agg_eq rfl rfl (by exact rfl) rfl ?_) | (refine W.agg_ne rfl rfl (by exact rfl) rfl ?_) | refine W.slice_nil rfl rfl rfl ?_ | refine W.slice_not rfl rfl rfl ?_ | (refine W.err_eq rfl (by exact find_) rfl rfl ?_) | (refine W.err_ne rfl (by exact find_) rfl rfl ?_) | (refine W.iface_nil rfl .nil rfl rfl ?_) | (refine W.iface_nil rfl (.val _ _) rfl rfl ?_) | (refine W.iface_not rfl .nil rfl rfl ?_) | (refine W.iface_not rfl (.val _ _) rfl rfl ?_) | (refine W.concat rfl rfl (by first | omega | (simp only [List.length_append, List.length_cons, List.length_nil, List.length_set, List.length_map, List.length_take, List.length_drop, List.length_replicate]; omega) | fail) rfl ?_) | fail) | (show W _ _ _ _ _ _ _ (⟨_, .call _, _, _, _, none⟩ :: _) _ _; first | refine W.len_slice rfl rfl ?_ | refine W.len_str rfl rfl ?_ | (refine W.app (by exact rfl) (by exact rfl) (by exact find_) (by (focus (iterate 40 first | done | (apply FindS.here; (first | exact reads_sl | assumption | exact Rd.reads | fail)) | apply FindS.there); done)) (by exact rfl) (by first | exact rfl | assumption | (simp only [List.length_append, List.length_cons, List.length_nil, List.length_set, List.length_map, List.length_take, List.length_drop, List.length_replicate]; done) | (simp only [List.length_append, List.length_cons, List.length_nil, List.length_set, List.length_map, List.length_take, List.length_drop, List.length_replicate]; omega) | omega | fail) (by first | exact rfl | assumption | (simp only [List.length_append, List.length_cons, List.length_nil, List.length_set, List.length_map, List.length_take, List.length_drop, List.length_replicate]; done) | (simp only [List.length_append, List.length_cons, List.length_nil, List.length_set, List.length_map, List.length_take, List.length_drop, List.length_replicate]; omega) | omega | fail) (by first | omega | (simp only [List.length_append, List.length_cons, List.length_nil, List.length_set, List.length_map, List.length_take, List.length_drop, List.length_replicate]; omega) | fail) (by first | omega | (simp only [List.length_append, List.length_cons, List.length_nil, List.length_set, List.length_map, List.length_take, List.length_drop, List.length_replicate]; omega) | fail) rfl (by exact incl_) ?_; intro zz zz) | (refine W.app0 (by exact rfl) (by exact rfl) (by (focus (iterate 40 first | done | (apply FindS.here; (first | exact reads_sl | assumption | exact Rd.reads | fail)) | apply FindS.there); done)) (by exact rfl) (by first | exact rfl | assumption | (simp only [List.length_append, List.length_cons, List.length_nil, List.length_set, List.length_map, List.length_take, List.length_drop, List.length_replicate]; done) | (simp only [List.length_append, List.length_cons, List.length_nil, List.length_set, List.length_map, List.length_take, List.length_drop, List.length_replicate]; omega) | omega | fail) (by first | omega | (simp only [List.length_append, List.length_cons, List.length_nil, List.length_set, List.length_map, List.length_take, List.length_drop, List.length_replicate]; omega) | fail) (by first | omega | (simp only [List.length_append, List.length_cons, List.length_nil, List.length_set, List.length_map, List.length_take, List.length_drop, List.length_replicate]; omega) | fail) rfl (by exact incl_) ?_; intro zz zz) | (refine W.callr (by exact rfl) (by exact ent_) rfl (by exact incl_) (F1 ..) ?_; (first | (rintro zz zz rfl) | (rintro zz zz ⟨rfl, rfl⟩) | (rintro zz zz ⟨zz, rfl, rfl⟩) | (rintro zz zz ⟨zz, zz, rfl, rfl⟩) | (rintro zz zz ⟨zz, zz, zz, rfl, rfl⟩)); (try simp only [List.cons_append, List.nil_append])) | (refine W.callr (by exact rfl) (by exact ent_) rfl (by exact incl_) (F2 ..) ?_; (first | (rintro zz zz rfl) | (rintro zz zz ⟨rfl, rfl⟩) | (rintro zz zz ⟨zz, rfl, rfl⟩) | (rintro zz zz ⟨zz, zz, rfl, rfl⟩) | (rintro zz zz ⟨zz, zz, zz, rfl, rfl⟩)); (try simp only [List.cons_append, List.nil_append])) | (refine W.callr (by exact rfl) (by exact ent_) rfl (by exact incl_) (F3 ..) ?_; (first | (rintro zz zz rfl) | (rintro zz zz ⟨rfl, rfl⟩) | (rintro zz zz ⟨zz, rfl, rfl⟩) | (rintro zz zz ⟨zz, zz, rfl, rfl⟩) | (rintro zz zz ⟨zz, zz, zz, rfl, rfl⟩)); (try simp only [List.cons_append, List.nil_append])) | (refine W.callr (by exact rfl) (by exact ent_) rfl (by exact incl_) (F4 ..) ?_; (first | (rintro zz zz rfl) | (rintro zz zz ⟨rfl, rfl⟩) | (rintro zz zz ⟨zz, rfl, rfl⟩) | (rintro zz zz ⟨zz, zz, rfl, rfl⟩) | (rintro zz zz ⟨zz, zz, zz, rfl, rfl⟩)); (try simp only [List.cons_append, List.nil_append])) | (refine W.callr (by exact rfl) (by exact ent_) rfl (by exact incl_) (F5 ..) ?_; (first | (rintro zz zz rfl) | (rintro zz zz ⟨rfl, rfl⟩) | (rintro zz zz ⟨zz, rfl, rfl⟩) | (rintro zz zz ⟨zz, zz, rfl, rfl⟩) | (rintro zz zz ⟨zz, zz, zz, rfl, rfl⟩)); (try simp only [List.cons_append, List.nil_append])) | (refine W.callr (by exact rfl) (by exact ent_) rfl (by exact incl_) (F6 ..) ?_; (first | (rintro zz zz rfl) | (rintro zz zz ⟨rfl, rfl⟩) | (rintro zz zz ⟨zz, rfl, rfl⟩) | (rintro zz zz ⟨zz, zz, rfl, rfl⟩) | (rintro zz zz ⟨zz, zz, zz, rfl, rfl⟩)); (try simp only [List.cons_append, List.nil_append])) | (refine W.callr (by exact rfl) (by exact ent_) rfl (by exact incl_) (F7 ..) ?_; (first | (rintro zz zz rfl) | (rintro zz zz ⟨rfl, rfl⟩) | (rintro zz zz ⟨zz, rfl, rfl⟩) | (rintro zz zz ⟨zz, zz, rfl, rfl⟩) | (rintro zz zz ⟨zz, zz, zz, rfl, rfl⟩)); (try simp only [List.cons_append, List.nil_append])) | (refine W.callr (by exact rfl) (by exact ent_) rfl (by exact incl_) (F8 ..) ?_; (first | (rintro zz zz rfl) | (rintro zz zz ⟨rfl, rfl⟩) | (rintro zz zz ⟨zz, rfl, rfl⟩) | (rintro zz zz ⟨zz, zz, rfl, rfl⟩) | (rintro zz zz ⟨zz, zz, zz, rfl, rfl⟩)); (try simp only [List.cons_append, List.nil_append])) | (refine W.callr (by exact rfl) (by exact ent_) rfl (by exact incl_) (F9 ..) ?_; (first | (rintro zz zz rfl) | (rintro zz zz ⟨rfl, rfl⟩) | (rintro zz zz ⟨zz, rfl, rfl⟩) | (rintro zz zz ⟨zz, zz, rfl, rfl⟩) | (rintro zz zz ⟨zz, zz, zz, rfl, rfl⟩)); (try simp only [List.cons_append, List.nil_append])) | (refine W.callr (by exact rfl) (by exact ent_) rfl (by exact incl_) (F10 ..) ?_; (first | (rintro zz zz rfl) | (rintro zz zz ⟨rfl, rfl⟩) | (rintro zz zz ⟨zz, rfl, rfl⟩) | (rintro zz zz ⟨zz, zz, rfl, rfl⟩) | (rintro zz zz ⟨zz, zz, zz, rfl, rfl⟩)); (try simp only [List.cons_append, List.nil_append])) | (refine W.callv rfl rfl (by exact rfl) (by exact ent_) rfl (by exact incl_) (F1 ..) ?_; (first | (rintro zz zz rfl) | (rintro zz zz ⟨rfl, rfl⟩) | (rintro zz zz ⟨zz, rfl, rfl⟩) | (rintro zz zz ⟨zz, zz, rfl, rfl⟩) | (rintro zz zz ⟨zz, zz, zz, rfl, rfl⟩)); (try simp only [List.cons_append, List.nil_append])) | (refine W.callv rfl rfl (by exact rfl) (by exact ent_) rfl (by exact incl_) (F2 ..) ?_; (first | (rintro zz zz rfl) | (rintro zz zz ⟨rfl, rfl⟩) | (rintro zz zz ⟨zz, rfl, rfl⟩) | (rintro zz zz ⟨zz, zz, rfl, rfl⟩) | (rintro zz zz ⟨zz, zz, zz, rfl, rfl⟩)); (try simp only [List.cons_append, List.nil_append])) | (refine W.callv rfl rfl (by exact rfl) (by exact ent_) rfl (by exact incl_) (F3 ..) ?_; (first | (rintro zz zz rfl) | (rintro zz zz ⟨rfl, rfl⟩) | (rintro zz zz ⟨zz, rfl, rfl⟩) | (rintro zz zz ⟨zz, zz, rfl, rfl⟩) | (rintro zz zz ⟨zz, zz, zz, rfl, rfl⟩)); (try simp only [List.cons_append, List.nil_append])) | (refine W.callv rfl rfl (by exact rfl) (by exact ent_) rfl (by exact incl_) (F4 ..) ?_; (first | (rintro zz zz rfl) | (rintro zz zz ⟨rfl, rfl⟩) | (rintro zz zz ⟨zz, rfl, rfl⟩) | (rintro zz zz ⟨zz, zz, rfl, rfl⟩) | (rintro zz zz ⟨zz, zz, zz, rfl, rfl⟩)); (try simp only [List.cons_append, List.nil_append])) | (refine W.callv rfl rfl (by exact rfl) (by exact ent_) rfl (by exact incl_) (F5 ..) ?_; (first | (rintro zz zz rfl) | (rintro zz zz ⟨rfl, rfl⟩) | (rintro zz zz ⟨zz, rfl, rfl⟩) | (rintro zz zz ⟨zz, zz, rfl, rfl⟩) | (rintro zz zz ⟨zz, zz, zz, rfl, rfl⟩)); (try simp only [List.cons_append, List.nil_append])) | (refine W.callv rfl rfl (by exact rfl) (by exact ent_) rfl (by exact incl_) (F6 ..) ?_; (first | (rintro zz zz rfl) | (rintro zz zz ⟨rfl, rfl⟩) | (rintro zz zz ⟨zz, rfl, rfl⟩) | (rintro zz zz ⟨zz, zz, rfl, rfl⟩) | (rintro zz zz ⟨zz, zz, zz, rfl, rfl⟩)); (try simp only [List.cons_append, List.nil_append])) | (refine W.callv rfl rfl (by exact rfl) (by exact ent_) rfl (by exact incl_) (F7 ..) ?_; (first | (rintro zz zz rfl) | (rintro zz zz ⟨rfl, rfl⟩) | (rintro zz zz ⟨zz, rfl, rfl⟩) | (rintro zz zz ⟨zz, zz, rfl, rfl⟩) | (rintro zz zz ⟨zz, zz, zz, rfl, rfl⟩)); (try simp only [List.cons_append, List.nil_append])) | (refine W.callv rfl rfl (by exact rfl) (by exact ent_) rfl (by exact incl_) (F8 ..) ?_; (first | (rintro zz zz rfl) | (rintro zz zz ⟨rfl, rfl⟩) | (rintro zz zz ⟨zz, rfl, rfl⟩) | (rintro zz zz ⟨zz, zz, rfl, rfl⟩) | (rintro zz zz ⟨zz, zz, zz, rfl, rfl⟩)); (try simp only [List.cons_append, List.nil_append])) | (refine W.callv rfl rfl (by exact rfl) (by exact ent_) rfl (by exact incl_) (F9 ..) ?_; (first | (rintro zz zz rfl) | (rintro zz zz ⟨rfl, rfl⟩) | (rintro zz zz ⟨zz, rfl, rfl⟩) | (rintro zz zz ⟨zz, zz, rfl, rfl⟩) | (rintro zz zz ⟨zz, zz, zz, rfl, rfl⟩)); (try simp only [List.cons_append, List.nil_append])) | (refine W.callv rfl rfl (by exact rfl) (by exact ent_) rfl (by exact incl_) (F10 ..) ?_; (first | (rintro zz zz rfl) | (rintro zz zz ⟨rfl, rfl⟩) | (rintro zz zz ⟨zz, rfl, rfl⟩) | (rintro zz zz ⟨zz, zz, rfl, rfl⟩) | (rintro zz zz ⟨zz, zz, zz, rfl, rfl⟩)); (try simp only [List.cons_append, List.nil_append])) | (refine W.callp (by exact rfl) (by exact ent_) rfl (by (try simp only [List.cons_append, List.nil_append]); (exact incl_)) (F1 ..) ?_; (rintro zz rfl); (try simp only [List.cons_append, List.nil_append])) | (refine W.callp (by exact rfl) (by exact ent_) rfl (by (try simp only [List.cons_append, List.nil_append]); (exact incl_)) (F2 ..) ?_; (rintro zz rfl); (try simp only [List.cons_append, List.nil_append])) | (refine W.callp (by exact rfl) (by exact ent_) rfl (by (try simp only [List.cons_append, List.nil_append]); (exact incl_)) (F3 ..) ?_; (rintro zz rfl); (try simp only [List.cons_append, List.nil_append])) | (refine W.callp (by exact rfl) (by exact ent_) rfl (by (try simp only [List.cons_append, List.nil_append]); (exact incl_)) (F4 ..) ?_; (rintro zz rfl); (try simp only [List.cons_append, List.nil_append])) | (refine W.callp (by exact rfl) (by exact ent_) rfl (by (try simp only [List.cons_append, List.nil_append]); (exact incl_)) (F5 ..) ?_; (rintro zz rfl); (try simp only [List.cons_append, List.nil_append])) | (refine W.callp (by exact rfl) (by exact ent_) rfl (by (try simp only [List.cons_append, List.nil_append]); (exact incl_)) (F6 ..) ?_; (rintro zz rfl); (try simp only [List.cons_append, List.nil_append])) | (refine W.callp (by exact rfl) (by exact ent_) rfl (by (try simp only [List.cons_append, List.nil_append]); (exact incl_)) (F7 ..) ?_; (rintro zz rfl); (try simp only [List.cons_append, List.nil_append])) | (refine W.callp (by exact rfl) (by exact ent_) rfl (by (try simp only [List.cons_append, List.nil_append]); (exact incl_)) (F8 ..) ?_; (rintro zz rfl); (try simp only [List.cons_append, List.nil_append])) | (refine W.callp (by exact rfl) (by exact ent_) rfl (by (try simp only [List.cons_append, List.nil_append]); (exact incl_)) (F9 ..) ?_; (rintro zz rfl); (try simp only [List.cons_append, List.nil_append])) | (refine W.callp (by exact rfl) (by exact ent_) rfl (by (try simp only [List.cons_append, List.nil_append]); (exact incl_)) (F10 ..) ?_; (rintro zz rfl); (try simp only [List.cons_append, List.nil_append])) | (refine W.callk (by exact rfl) (by exact ent_) rfl (by kernel_rfl) (F1 ..) ?_; (first | (rintro zz zz rfl) | (rintro zz zz ⟨rfl, rfl⟩) | (rintro zz zz ⟨zz, rfl, rfl⟩) | (rintro zz zz ⟨zz, zz, rfl, rfl⟩) | (rintro zz zz ⟨zz, zz, zz, rfl, rfl⟩)); (try simp only [List.cons_append, List.nil_append])) | (refine W.callk (by exact rfl) (by exact ent_) rfl (by kernel_rfl) (F2 ..) ?_; (first | (rintro zz zz rfl) | (rintro zz zz ⟨rfl, rfl⟩) | (rintro zz zz ⟨zz, rfl, rfl⟩) | (rintro zz zz ⟨zz, zz, rfl, rfl⟩) | (rintro zz zz ⟨zz, zz, zz, rfl, rfl⟩)); (try simp only [List.cons_append, List.nil_append])) | (refine W.callk (by exact rfl) (by exact ent_) rfl (by kernel_rfl) (F3 ..) ?_; (first | (rintro zz zz rfl) | (rintro zz zz ⟨rfl, rfl⟩) | (rintro zz zz ⟨zz, rfl, rfl⟩) | (rintro zz zz ⟨zz, zz, rfl, rfl⟩) | (rintro zz zz ⟨zz, zz, zz, rfl, rfl⟩)); (try simp only [List.cons_append, List.nil_append])) | (refine W.callk (by exact rfl) (by exact ent_) rfl (by kernel_rfl) (F4 ..) ?_; (first | (rintro zz zz rfl) | (rintro zz zz ⟨rfl, rfl⟩) | (rintro zz zz ⟨zz, rfl, rfl⟩) | (rintro zz zz ⟨zz, zz, rfl, rfl⟩) | (rintro zz zz ⟨zz, zz, zz, rfl, rfl⟩)); (try simp only [List.cons_append, List.nil_append])) | (refine W.callk (by exact rfl) (by exact ent_) rfl (by kernel_rfl) (F5 ..) ?_; (first | (rintro zz zz rfl) | (rintro zz zz ⟨rfl, rfl⟩) | (rintro zz zz ⟨zz, rfl, rfl⟩) | (rintro zz zz ⟨zz, zz, rfl, rfl⟩) | (rintro zz zz ⟨zz, zz, zz, rfl, rfl⟩)); (try simp only [List.cons_append, List.nil_append])) | (refine W.callk (by exact rfl) (by exact ent_) rfl (by kernel_rfl) (F6 ..) ?_; (first | (rintro zz zz rfl) | (rintro zz zz ⟨rfl, rfl⟩) | (rintro zz zz ⟨zz, rfl, rfl⟩) | (rintro zz zz ⟨zz, zz, rfl, rfl⟩) | (rintro zz zz ⟨zz, zz, zz, rfl, rfl⟩)); (try simp only [List.cons_append, List.nil_append])) | (refine W.callk (by exact rfl) (by exact ent_) rfl (by kernel_rfl) (F7 ..) ?_; (first | (rintro zz zz rfl) | (rintro zz zz ⟨rfl, rfl⟩) | (rintro zz zz ⟨zz, rfl, rfl⟩) | (rintro zz zz ⟨zz, zz, rfl, rfl⟩) | (rintro zz zz ⟨zz, zz, zz, rfl, rfl⟩)); (try simp only [List.cons_append, List.nil_append])) | (refine W.callk (by exact rfl) (by exact ent_) rfl (by kernel_rfl) (F8 ..) ?_; (first | (rintro zz zz rfl) | (rintro zz zz ⟨rfl, rfl⟩) | (rintro zz zz ⟨zz, rfl, rfl⟩) | (rintro zz zz ⟨zz, zz, rfl, rfl⟩) | (rintro zz zz ⟨zz, zz, zz, rfl, rfl⟩)); (try simp only [List.cons_append, List.nil_append])) | (refine W.callk (by exact rfl) (by exact ent_) rfl (by kernel_rfl) (F9 ..) ?_; (first | (rintro zz zz rfl) | (rintro zz zz ⟨rfl, rfl⟩) | (rintro zz zz ⟨zz, rfl, rfl⟩) | (rintro zz zz ⟨zz, zz, rfl, rfl⟩) | (rintro zz zz ⟨zz, zz, zz, rfl, rfl⟩)); (try simp only [List.cons_append, List.nil_append])) | (refine W.callk (by exact rfl) (by exact ent_) rfl (by kernel_rfl) (F10 ..) ?_; (first | (rintro zz zz rfl) | (rintro zz zz ⟨rfl, rfl⟩) | (rintro zz zz ⟨zz, rfl, rfl⟩) | (rintro zz zz ⟨zz, zz, rfl, rfl⟩) | (rintro zz zz ⟨zz, zz, zz, rfl, rfl⟩)); (try simp only [List.cons_append, List.nil_append])) | refine W.max2 rfl rfl rfl ?_ | refine W.min2 rfl rfl rfl ?_ | fail) | (show W _ _ _ _ _ _ _ (⟨_, .store _ _ _, _, _, _, none⟩ :: _) _ _; first | (apply W.store; exact rfl; exact rfl; exact rfl; (exact find_); (focus (iterate 40 first | done | exact .here | apply SetAt.there); done); (exact incl_)) | (apply W.store_all; exact rfl; exact rfl; exact rfl; exact rfl; (exact find_); exact rfl; (exact incl_)) | (apply W.store_agg; exact rfl; exact rfl; exact rfl; exact rfl; (exact find_); exact rfl; exact rfl; (exact incl_)) | (refine W.stb rfl rfl (by exact find_) rfl (by first | assumption | exact get_set (by assumption) | exact get_set (get_set (by assumption)) | exact get_zip (by first | assumption | exact get_set (by assumption) | exact get_set (get_set (by assumption)) | fail) (by assumption) | exact List.getElem?_eq_getElem (by omega) | fail) (by exact incl_) ?_) | (refine W.sts rfl rfl (by exact find_) rfl (by first | assumption | exact get_set (by assumption) | exact get_set (get_set (by assumption)) | exact get_zip (by first | assumption | exact get_set (by assumption) | exact get_set (get_set (by assumption)) | fail) (by assumption) | exact List.getElem?_eq_getElem (by omega) | fail) (by exact incl_) ?_) | (refine W.st8z rfl rfl (by exact find_) rfl (by first | assumption | exact get_set (by assumption) | exact get_set (get_set (by assumption)) | exact get_zip (by first | assumption | exact get_set (by assumption) | exact get_set (get_set (by assumption)) | fail) (by assumption) | exact List.getElem?_eq_getElem (by omega) | fail) (by first | omega | (simp only [List.length_append, List.length_cons, List.length_nil, List.length_set, List.length_map, List.length_take, List.length_drop, List.length_replicate]; omega) | fail) (by first | omega | (simp only [List.length_append, List.length_cons, List.length_nil, List.length_set, List.length_map, List.length_take, List.length_drop, List.length_replicate]; omega) | fail) (by exact incl_) ?_) | fail) | (apply W.field; exact rfl; ((try simp only [Nat.zero_add, Nat.add_zero, Nat.reduceAdd]); exact rfl); exact rfl) | refine W.nil ?_ | refine E.then_normal ?_ | refine C.seq ?_ | refine C.region ?_ | refine C.block ?_ | refine C.skip ?_ | refine C.ret ?_ | refine C.exit ?_ | refine W.extract rfl rfl rfl ?_ | (apply W.alloc_agg; exact rfl; (exact incl_); intro zz) | (apply W.alloc1; exact rfl; exact rfl; (exact incl_); intro zz) | (apply W.alloc; exact rfl; (exact incl_); intro zz) | (apply W.box_agg; exact rfl; exact rfl; (exact incl_); intro zz) | (apply W.box1; exact rfl; exact rfl; exact rfl; (exact incl_); intro zz) | (apply W.box; exact rfl; exact rfl; (exact incl_); intro zz) | refine E.then_exit ?_ | refine E.then_ret ?_ | refine E.block_normal ?_ | refine E.block_ret ?_ | refine E.block_exit ?_ | refine E.block_past rfl ?_ | (refine C.cd_t rfl (by first | with_reducible rfl | decide | fail) ?_) | (refine C.cd_f rfl (by first | with_reducible rfl | decide | fail) ?_) | (refine W.gy rfl rfl (by first | with_reducible rfl | decide | fail) ?_) | (refine W.gn rfl rfl (by first | with_reducible rfl | decide | fail) rfl ?_) | (refine W.gu rfl (by with_reducible rfl) rfl ?_) | (refine W.gu rfl rfl rfl ?_) | (refine W.pk_t rfl (by first | with_reducible rfl | decide | fail) rfl rfl ?_) | (refine W.pk_f rfl (by first | with_reducible rfl | decide | fail) rfl rfl ?_) | (refine W.not_t rfl (by first | with_reducible rfl | decide | fail) rfl ?_) | (refine W.not_f rfl (by first | with_reducible rfl | decide | fail) rfl ?_) | refine W.not rfl rfl ?_ | (show W _ _ _ _ _ _ _ (⟨_, .slice _ _ _ _ _, _, _, _, none⟩ :: _) _ _; first | (refine W.ss2 (by exact rfl) (by exact rfl) (by exact rfl) (by first | omega | (simp only [List.length_append, List.length_cons, List.length_nil, List.length_set, List.length_map, List.length_take, List.length_drop, List.length_replicate]; omega) | fail) (by first | omega | (simp only [List.length_append, List.length_cons, List.length_nil, List.length_set, List.length_map, List.length_take, List.length_drop, List.length_replicate]; omega) | fail) (by first | omega | (simp only [List.length_append, List.length_cons, List.length_nil, List.length_set, List.length_map, List.length_take, List.length_drop, List.length_replicate]; omega) | fail) (by first | with_reducible exact Int.toNat_natCast _ | with_reducible exact Int.toNat_zero | with_reducible exact Int.toNat_one | exact tok_refl _ | fail) (by first | with_reducible exact Int.toNat_natCast _ | with_reducible exact Int.toNat_zero | with_reducible exact Int.toNat_one | exact tok_refl _ | fail) rfl ?_) | (refine W.ss1 (by exact rfl) (by exact rfl) (by first | omega | (simp only [List.length_append, List.length_cons, List.length_nil, List.length_set, List.length_map, List.length_take, List.length_drop, List.length_replicate]; omega) | fail) (by first | omega | (simp only [List.length_append, List.length_cons, List.length_nil, List.length_set, List.length_map, List.length_take, List.length_drop, List.length_replicate]; omega) | fail) (by first | with_reducible exact Int.toNat_natCast _ | with_reducible exact Int.toNat_zero | with_reducible exact Int.toNat_one | exact tok_refl _ | fail) rfl ?_) | (refine W.ss0 (by exact rfl) (by exact rfl) (by first | omega | (simp only [List.length_append, List.length_cons, List.length_nil, List.length_set, List.length_map, List.length_take, List.length_drop, List.length_replicate]; omega) | fail) (by first | omega | (simp only [List.length_append, List.length_cons, List.length_nil, List.length_set, List.length_map, List.length_take, List.length_drop, List.length_replicate]; omega) | fail) (by first | with_reducible exact Int.toNat_natCast _ | with_reducible exact Int.toNat_zero | with_reducible exact Int.toNat_one | exact tok_refl _ | fail) rfl ?_) | fail) | (show W _ _ _ _ _ _ _ (⟨_, .index _ _ _, _, _, _, none⟩ :: _) _ _; first | (refine W.ixs (by exact rfl) (by exact rfl) (by first | omega | (simp only [List.length_append, List.length_cons, List.length_nil, List.length_set, List.length_map, List.length_take, List.length_drop, List.length_replicate]; omega) | fail) (by first | with_reducible exact Int.toNat_natCast _ | with_reducible exact Int.toNat_zero | with_reducible exact Int.toNat_one | exact tok_refl _ | fail) (by first | assumption | exact get_set (by assumption) | exact get_set (get_set (by assumption)) | exact get_zip (by first | assumption | exact get_set (by assumption) | exact get_set (get_set (by assumption)) | fail) (by assumption) | exact List.getElem?_eq_getElem (by omega) | fail) rfl ?_) | (refine W.ixv (by exact rfl) (by exact rfl) (by first | omega | (simp only [List.length_append, List.length_cons, List.length_nil, List.length_set, List.length_map, List.length_take, List.length_drop, List.length_replicate]; omega) | fail) (by first | omega | (simp only [List.length_append, List.length_cons, List.length_nil, List.length_set, List.length_map, List.length_take, List.length_drop, List.length_replicate]; omega) | fail) (by first | with_reducible exact Int.toNat_natCast _ | with_reducible exact Int.toNat_zero | with_reducible exact Int.toNat_one | exact tok_refl _ | fail) (by first | assumption | exact get_set (by assumption) | exact get_set (get_set (by assumption)) | exact get_zip (by first | assumption | exact get_set (by assumption) | exact get_set (get_set (by assumption)) | fail) (by assumption) | exact List.getElem?_eq_getElem (by omega) | fail) rfl ?_) | fail) | (show W _ _ _ _ _ _ _ (⟨_, .indexAddr _ _ _, _, _, _, none⟩ :: _) _ _; first | (refine W.ix rfl rfl (by (focus (iterate 40 first | done | (apply FindS.here; (first | exact reads_sl | assumption | exact Rd.reads | fail)) | apply FindS.there); done)) (by first | exact rfl | assumption | (simp only [List.length_append, List.length_cons, List.length_nil, List.length_set, List.length_map, List.length_take, List.length_drop, List.length_replicate]; done) | (simp only [List.length_append, List.length_cons, List.length_nil, List.length_set, List.length_map, List.length_take, List.length_drop, List.length_replicate]; omega) | omega | fail) (by exact rfl) (by first | omega | (simp only [List.length_append, List.length_cons, List.length_nil, List.length_set, List.length_map, List.length_take, List.length_drop, List.length_replicate]; omega) | fail) (by first | omega | (simp only [List.length_append, List.length_cons, List.length_nil, List.length_set, List.length_map, List.length_take, List.length_drop, List.length_replicate]; omega) | fail) (by first | with_reducible exact Int.toNat_natCast _ | with_reducible exact Int.toNat_zero | with_reducible exact Int.toNat_one | exact tok_refl _ | fail) rfl ?_) | (refine W.ixe rfl rfl (by first | omega | (simp only [List.length_append, List.length_cons, List.length_nil, List.length_set, List.length_map, List.length_take, List.length_drop, List.length_replicate]; omega) | fail) (by first | omega | (simp only [List.length_append, List.length_cons, List.length_nil, List.length_set, List.length_map, List.length_take, List.length_drop, List.length_replicate]; omega) | fail) (by first | with_reducible exact Int.toNat_natCast _ | with_reducible exact Int.toNat_zero | with_reducible exact Int.toNat_one | exact tok_refl _ | fail) (by (try simp only [Nat.reduceMul, Nat.reduceAdd]); exact rfl) rfl rfl ?_) | (refine W.ixe_stay rfl rfl (by first | omega | (simp only [List.length_append, List.length_cons, List.length_nil, List.length_set, List.length_map, List.length_take, List.length_drop, List.length_replicate]; omega) | fail) (by first | omega | (simp only [List.length_append, List.length_cons, List.length_nil, List.length_set, List.length_map, List.length_take, List.length_drop, List.length_replicate]; omega) | fail) (by first | with_reducible exact Int.toNat_natCast _ | with_reducible exact Int.toNat_zero | with_reducible exact Int.toNat_one | exact tok_refl _ | fail) (by (try simp only [Nat.reduceMul, Nat.reduceAdd]); exact rfl) .here rfl rfl ?_) | fail) | (show W _ _ _ _ _ _ _ (⟨_, .buildSlice _ _ _, _, _, _, none⟩ :: _) _ _; first | (refine W.slice1 Enc.str _ rfl rfl rfl rfl (by exact incl_) ?_; intro zz) | (refine W.slice1 Enc.u8 _ rfl rfl rfl rfl (by exact incl_) ?_; intro zz) | (refine W.slice1 (Enc.int .i64) _ rfl rfl rfl rfl (by exact incl_) ?_; intro zz) | (refine W.sl8 (by exact rfl) (by first | omega | (simp only [List.length_append, List.length_cons, List.length_nil, List.length_set, List.length_map, List.length_take, List.length_drop, List.length_replicate]; omega) | fail) (by first | omega | (simp only [List.length_append, List.length_cons, List.length_nil, List.length_set, List.length_map, List.length_take, List.length_drop, List.length_replicate]; omega) | fail) rfl (by exact incl_) ?_; intro zz) | (refine W.sla (by exact rfl) (by exact rfl) (by exact rfl) rfl (by exact incl_) ?_; intro zz) | (refine W.bsi rfl (by exact rfl) (by exact rfl) (by exact rfl) rfl (by exact incl_) ?_; intro zz) | (refine W.bss rfl (by exact rfl) (by exact rfl) (by exact rfl) rfl (by exact incl_) ?_; intro zz) | fail) | (show W _ _ _ _ _ _ _ (⟨_, .makeMap _ _, _, _, _, none⟩ :: _) _ _; refine W.mkmap rfl (by exact incl_) ?_; intro zz) | (show W _ _ _ _ _ _ _ (⟨_, .mapUpdate _ _ _ _, _, _, _, none⟩ :: _) _ _; refine W.mput (by exact rfl) (by exact rfl) (by exact rfl) (by exact find_) (by assumption) (by first | exact .nil | exact .incl (by exact incl_)) ?_) | (show W _ _ _ _ _ _ _ (⟨_, .lookup _ _ _ _, _, _, _, none⟩ :: _) _ _; first | (refine W.mlook (by exact rfl) (by exact rfl) rfl (by exact find_) (by assumption) (by exact incl_) ?_) | (refine W.mnone (by exact rfl) (by exact rfl) rfl (by exact find_) (by assumption) (by exact incl_) ?_) | fail) | (refine W.fld rfl (by exact rfl) rfl ?_) | (refine W.mkf rfl rfl rfl ?_) | (refine W.cv rfl (wrapu64 (by first | omega | (simp only [List.length_append, List.length_cons, List.length_nil, List.length_set, List.length_map, List.length_take, List.length_drop, List.length_replicate]; omega) | fail) (by first | omega | (simp only [List.length_append, List.length_cons, List.length_nil, List.length_set, List.length_map, List.length_take, List.length_drop, List.length_replicate]; omega) | fail)) rfl ?_) | (refine W.bldr rfl (by (focus (iterate 40 first | done | exact Fill1.nil | (apply Fill1.cons; exact rfl; exact rfl; (focus (iterate 40 first | done | exact .here | apply SetAt.there); done))); done)) rfl ?_) | (apply W.bld; exact rfl; exact rfl; exact rfl) | refine W.makeIface rfl rfl ?_ | (show C _ _ _ _ (.region _ _ true) _ _; refine C.region_by mixed (by kernel_rfl) (by (repeat (with_reducible first | exact calm_body | apply Calm.then | apply Calm.block | assumption))) ?_; simp only [pick, List.filterMap_cons, List.filterMap_nil, List.getElem?_toArray, List.getElem?_cons_succ, List.getElem?_cons_zero]) | (show C _ _ _ _ (.region _ _ true) _ _; refine C.region_many mixed (by kernel_rfl) (by (repeat (with_reducible first | exact calm_body | apply Calm.then | apply Calm.block | assumption))) ?_; simp only [AllP, pick, List.filterMap_cons, List.filterMap_nil, List.getElem?_toArray, List.getElem?_cons_succ, List.getElem?_cons_zero]; (repeat' (first | exact trivial | apply And.intro))) | (show C _ _ _ _ (.region _ _ true) _ _; (refine C.region_draw0 [] mixed (by kernel_rfl) (by (repeat (with_reducible first | exact calm_body | apply Calm.then | apply Calm.block | assumption))) ?_)) | (refine W.cv rfl (wrap64 (by first | omega | (simp only [List.length_append, List.length_cons, List.length_nil, List.length_set, List.length_map, List.length_take, List.length_drop, List.length_replicate]; omega) | fail) (by first | omega | (simp only [List.length_append, List.length_cons, List.length_nil, List.length_set, List.length_map, List.length_take, List.length_drop, List.length_replicate]; omega) | fail)) rfl ?_) | (refine W.cv rfl (wrap8 (by first | omega | (simp only [List.length_append, List.length_cons, List.length_nil, List.length_set, List.length_map, List.length_take, List.length_drop, List.length_replicate]; omega) | fail) (by first | omega | (simp only [List.length_append, List.length_cons, List.length_nil, List.length_set, List.length_map, List.length_take, List.length_drop, List.length_replicate]; omega) | fail)) rfl ?_) | (refine W.neg (by exact rfl) rfl (by first | omega | (simp only [List.length_append, List.length_cons, List.length_nil, List.length_set, List.length_map, List.length_take, List.length_drop, List.length_replicate]; omega) | fail) (by first | omega | (simp only [List.length_append, List.length_cons, List.length_nil, List.length_set, List.length_map, List.length_take, List.length_drop, List.length_replicate]; omega) | fail) rfl ?_) | (show W _ _ _ _ _ _ _ (⟨_, .convert _ _ _, _, _, _, none⟩ :: _) _ _; first | (refine W.str_bytes (by exact rfl) (by first | omega | (simp only [List.length_append, List.length_cons, List.length_nil, List.length_set, List.length_map, List.length_take, List.length_drop, List.length_replicate]; omega) | fail) rfl (by exact incl_) ?_; intro zz zz) | (refine W.bs rfl (by (focus (iterate 40 first | done | (apply FindS.here; (first | exact reads_sl | assumption | exact Rd.reads | fail)) | apply FindS.there); done)) (by first | exact rfl | assumption | (simp only [List.length_append, List.length_cons, List.length_nil, List.length_set, List.length_map, List.length_take, List.length_drop, List.length_replicate]; done) | (simp only [List.length_append, List.length_cons, List.length_nil, List.length_set, List.length_map, List.length_take, List.length_drop, List.length_replicate]; omega) | omega | fail) rfl rfl ?_) | fail) | (show W _ _ _ _ _ _ _ (⟨_, .store _ _ _, _, _, _, none⟩ :: _) _ _; first | (refine W.stC (wz := ?_) (j := 0) rfl rfl (by exact find_) (by exact rfl) (by first | assumption | exact get_set (by assumption) | exact get_set (get_set (by assumption)) | exact get_set (get_set (get_set (by assumption))) | fail) (by exact incl_) ?_ ?_; (rotate_left; focus ((try dsimp only); (try simp only [List.set_set]); exact rfl))) | (refine W.stC (wz := ?_) rfl rfl (by exact find_) (by exact rfl) (by first | assumption | exact get_set (by assumption) | exact get_set (get_set (by assumption)) | exact get_set (get_set (get_set (by assumption))) | fail) (by exact incl_) ?_ ?_; (rotate_left; focus ((try dsimp only); (try simp only [List.set_set]); exact rfl))) | (refine W.stT (wz := ?_) (j := 0) rfl rfl (by exact find_) (by exact rfl) (by first | assumption | exact get_set (by assumption) | exact get_set (get_set (by assumption)) | exact get_set (get_set (get_set (by assumption))) | fail) (by exact incl_) ?_ ?_; (rotate_left; focus ((try dsimp only); (try simp only [List.set_set]); exact rfl))) | (refine W.stT (wz := ?_) rfl rfl (by exact find_) (by exact rfl) (by first | assumption | exact get_set (by assumption) | exact get_set (get_set (by assumption)) | exact get_set (get_set (get_set (by assumption))) | fail) (by exact incl_) ?_ ?_; (rotate_left; focus ((try dsimp only); (try simp only [List.set_set]); exact rfl))) | (refine W.stM (wz := ?_) (j := 0) rfl rfl (by exact find_) (by exact rfl) (by first | assumption | exact get_set (by assumption) | exact get_set (get_set (by assumption)) | exact get_set (get_set (get_set (by assumption))) | fail) (by exact incl_) ?_ ?_; (rotate_left; focus ((try dsimp only); (try simp only [List.set_set]); exact rfl))) | (refine W.stM (wz := ?_) rfl rfl (by exact find_) (by exact rfl) (by first | assumption | exact get_set (by assumption) | exact get_set (get_set (by assumption)) | exact get_set (get_set (get_set (by assumption))) | fail) (by exact incl_) ?_ ?_; (rotate_left; focus ((try dsimp only); (try simp only [List.set_set]); exact rfl))) | (refine W.stH (wz := ?_) (j := 0) rfl rfl (by exact find_) (by exact rfl) (by first | assumption | exact get_set (by assumption) | exact get_set (get_set (by assumption)) | exact get_set (get_set (get_set (by assumption))) | fail) (by exact incl_) ?_ ?_; (rotate_left; focus ((try dsimp only); (try simp only [List.set_set]); exact rfl))) | (refine W.stH (wz := ?_) rfl rfl (by exact find_) (by exact rfl) (by first | assumption | exact get_set (by assumption) | exact get_set (get_set (by assumption)) | exact get_set (get_set (get_set (by assumption))) | fail) (by exact incl_) ?_ ?_; (rotate_left; focus ((try dsimp only); (try simp only [List.set_set]); exact rfl))) | (refine W.stL (wz := ?_) (j := 0) rfl rfl (by exact find_) (by exact rfl) (by first | assumption | exact get_set (by assumption) | exact get_set (get_set (by assumption)) | exact get_set (get_set (get_set (by assumption))) | fail) (by exact incl_) ?_ ?_; (rotate_left; focus ((try dsimp only); (try simp only [List.set_set]); exact rfl))) | (refine W.stL (wz := ?_) rfl rfl (by exact find_) (by exact rfl) (by first | assumption | exact get_set (by assumption) | exact get_set (get_set (by assumption)) | exact get_set (get_set (get_set (by assumption))) | fail) (by exact incl_) ?_ ?_; (rotate_left; focus ((try dsimp only); (try simp only [List.set_set]); exact rfl))) | (refine W.stI (wz := ?_) (j := 0) rfl rfl (by exact find_) (by exact rfl) (by first | assumption | exact get_set (by assumption) | exact get_set (get_set (by assumption)) | exact get_set (get_set (get_set (by assumption))) | fail) (by exact incl_) ?_ ?_; (rotate_left; focus ((try dsimp only); (try simp only [List.set_set]); exact rfl))) | (refine W.stI (wz := ?_) rfl rfl (by exact find_) (by exact rfl) (by first | assumption | exact get_set (by assumption) | exact get_set (get_set (by assumption)) | exact get_set (get_set (get_set (by assumption))) | fail) (by exact incl_) ?_ ?_; (rotate_left; focus ((try dsimp only); (try simp only [List.set_set]); exact rfl))) | (refine W.stW rfl rfl (by exact find_) (by exact incl_) ?_) | (refine W.cutC (wz := ?_) rfl rfl (by exact find_) (by first | omega | (simp only [List.length_append, List.length_cons, List.length_nil, List.length_set, List.length_map, List.length_take, List.length_drop, List.length_replicate]; omega) | fail) (by exact incl_) ?_ ?_; (rotate_left; focus ((try dsimp only); (try simp only [List.set_set]); exact rfl))) | (refine W.cutT (wz := ?_) rfl rfl (by exact find_) (by first | omega | (simp only [List.length_append, List.length_cons, List.length_nil, List.length_set, List.length_map, List.length_take, List.length_drop, List.length_replicate]; omega) | fail) (by exact incl_) ?_ ?_; (rotate_left; focus ((try dsimp only); (try simp only [List.set_set]); exact rfl))) | (refine W.cutM (wz := ?_) rfl rfl (by exact find_) (by first | omega | (simp only [List.length_append, List.length_cons, List.length_nil, List.length_set, List.length_map, List.length_take, List.length_drop, List.length_replicate]; omega) | fail) (by exact incl_) ?_ ?_; (rotate_left; focus ((try dsimp only); (try simp only [List.set_set]); exact rfl))) | (refine W.cutH (wz := ?_) rfl rfl (by exact find_) (by first | omega | (simp only [List.length_append, List.length_cons, List.length_nil, List.length_set, List.length_map, List.length_take, List.length_drop, List.length_replicate]; omega) | fail) (by exact incl_) ?_ ?_; (rotate_left; focus ((try dsimp only); (try simp only [List.set_set]); exact rfl))) | (refine W.cutL (wz := ?_) rfl rfl (by exact find_) (by first | omega | (simp only [List.length_append, List.length_cons, List.length_nil, List.length_set, List.length_map, List.length_take, List.length_drop, List.length_replicate]; omega) | fail) (by exact incl_) ?_ ?_; (rotate_left; focus ((try dsimp only); (try simp only [List.set_set]); exact rfl))) | (refine W.cutI (wz := ?_) rfl rfl (by exact find_) (by first | omega | (simp only [List.length_append, List.length_cons, List.length_nil, List.length_set, List.length_map, List.length_take, List.length_drop, List.length_replicate]; omega) | fail) (by exact incl_) ?_ ?_; (rotate_left; focus ((try dsimp only); (try simp only [List.set_set]); exact rfl))) | (refine W.cutD (wz := ?_) rfl rfl (by exact find_) (by exact rfl) (by first | assumption | exact get_set (by assumption) | exact get_set (get_set (by assumption)) | exact get_set (get_set (get_set (by assumption))) | fail) (by assumption) (by first | omega | (simp only [List.length_append, List.length_cons, List.length_nil, List.length_set, List.length_map, List.length_take, List.length_drop, List.length_replicate]; omega) | fail) (by exact incl_) ?_ ?_; (rotate_left; focus ((try dsimp only); (try simp only [List.set_set]); exact rfl))) | (refine W.cutG (wz := ?_) rfl rfl (by exact find_) (by exact rfl) (by first | assumption | exact get_set (by assumption) | exact get_set (get_set (by assumption)) | exact get_set (get_set (get_set (by assumption))) | fail) (by assumption) (by first | omega | (simp only [List.length_append, List.length_cons, List.length_nil, List.length_set, List.length_map, List.length_take, List.length_drop, List.length_replicate]; omega) | fail) (by exact incl_) ?_ ?_; (rotate_left; focus ((try dsimp only); (try simp only [List.set_set]); exact rfl))) | (refine W.stG (wz := ?_) rfl rfl (by exact find_) (by exact rfl) (by first | assumption | exact get_set (by assumption) | exact get_set (get_set (by assumption)) | exact get_set (get_set (get_set (by assumption))) | fail) (by assumption) (by first | assumption | exact get_set (by assumption) | exact get_set (get_set (by assumption)) | exact get_set (get_set (get_set (by assumption))) | fail) (by exact incl_) ?_ ?_; (rotate_left; focus ((try dsimp only); (try simp only [List.set_set]); exact rfl))) | fail) | (show W _ _ _ _ _ _ _ (⟨_, .slice _ _ _ _ _, _, _, _, none⟩ :: _) _ _; refine W.slh (by exact rfl) (by exact rfl) (by first | omega | (simp only [List.length_append, List.length_cons, List.length_nil, List.length_set, List.length_map, List.length_take, List.length_drop, List.length_replicate]; omega) | fail) (by first | omega | (simp only [List.length_append, List.length_cons, List.length_nil, List.length_set, List.length_map, List.length_take, List.length_drop, List.length_replicate]; omega) | fail) rfl ?_) | (refine W.guard_b rfl rfl rfl (fun hq => ?_) (fun hq => ?_) <;> (((try simp only [decide_eq_true_eq, decide_eq_false_iff_not, beq_iff_eq, beq_eq_false_iff_ne, bne_iff_ne, bne_eq_false_iff_eq, ne_eq, Bool.not_eq_true', Bool.not_eq_false', Bool.not_true, Bool.not_false, Bool.not_eq_true, Bool.not_eq_false, Int.not_lt, Int.not_le, Decidable.not_not, gt_iff_lt, ge_iff_le, not_true_eq_false, not_false_eq_true, ne_self_iff_false, bne_self_eq_false, beq_self_eq_true, reduceCtorEq] at hq); (try omega)); (try (revert hq; intro zz)))) | (refine C.cond_b rfl (fun hq => ?_) (fun hq => ?_) <;> (((try simp only [decide_eq_true_eq, decide_eq_false_iff_not, beq_iff_eq, beq_eq_false_iff_ne, bne_iff_ne, bne_eq_false_iff_eq, ne_eq, Bool.not_eq_true', Bool.not_eq_false', Bool.not_true, Bool.not_false, Bool.not_eq_true, Bool.not_eq_false, Int.not_lt, Int.not_le, Decidable.not_not, gt_iff_lt, ge_iff_le, not_true_eq_false, not_false_eq_true, ne_self_iff_false, bne_self_eq_false, beq_self_eq_true, reduceCtorEq] at hq); (try omega)); (try (revert hq; intro zz)))) | (show E _ _ (bodyQ _ _ _ _ _) _ _ _; first | (refine E.body1 rfl (by first | exact .inl rfl | exact .inr rfl | fail) rfl ⟨?_, rfl⟩ (by exact ent_)) | (refine E.body0 rfl (by first | exact .inl rfl | exact .inr rfl | fail) rfl (by exact ent_)) | (refine E.body2 rfl (by first | exact .inl rfl | exact .inr rfl | fail) rfl rfl ⟨?_, rfl⟩ (by exact ent_)) | (refine E.bodyca rfl (by first | exact .inl rfl | exact .inr rfl | fail) rfl (by exact find_) (by exact rfl) ⟨?_, rfl⟩ (by exact ent_)) | (refine E.bodyc1 rfl (by first | exact .inl rfl | exact .inr rfl | fail) rfl (by exact find_) rfl rfl ⟨?_, rfl⟩ (by exact ent_)) | (refine E.bodyc0 rfl (by first | exact .inl rfl | exact .inr rfl | fail) rfl (by exact find_) rfl ⟨?_, rfl⟩ (by exact ent_)) | (refine E.bodyc2 rfl (by first | exact .inl rfl | exact .inr rfl | fail) rfl (by exact find_) rfl rfl rfl ⟨?_, rfl⟩ (by exact ent_)) | fail) | (show (_ : Value) = _; with_reducible rfl) | fail)); (all_goals (repeat (revert zz))); (all_goals (with_reducible first | exact Bx.get r1 | exact Bx.get r2 | exact Bx.get r3 | exact Bx.get r4 | exact Bx.get r5 | exact Bx.get r6 | exact Bx.get r7 | exact Bx.get r8 | exact Bx.get r9 | exact Bx.get r10 | exact Bx.get r11 | exact Bx.get r12 | exact Bx.get r13 | exact Bx.get r14)))); (try (have z : True := Bx.get r1)); (try (have z : True := Bx.get r2)); (try (have z : True := Bx.get r3)); (try (have z : True := Bx.get r4)); (try (have z : True := Bx.get r5)); (try (have z : True := Bx.get r6)); (try (have z : True := Bx.get r7)); (try (have z : True := Bx.get r8)); (try (have z : True := Bx.get r9)); (try (have z : True := Bx.get r10)); (try (have z : True := Bx.get r11)); (try (have z : True := Bx.get r12)); (try (have z : True := Bx.get r13)); (try (have z : True := Bx.get r14)); trivial)) : p := h ⟨hres.1⟩ ⟨hres.2.1⟩ ⟨hres.2.2.1⟩ ⟨hres.2.2.2.1⟩ ⟨hres.2.2.2.2.1⟩ ⟨hres.2.2.2.2.2.1⟩ ⟨hres.2.2.2.2.2.2.1⟩ ⟨hres.2.2.2.2.2.2.2.1⟩ ⟨hres.2.2.2.2.2.2.2.2.1⟩ ⟨hres.2.2.2.2.2.2.2.2.2.1⟩ ⟨hres.2.2.2.2.2.2.2.2.2.2.1⟩ ⟨hres.2.2.2.2.2.2.2.2.2.2.2.1⟩ ⟨hres.2.2.2.2.2.2.2.2.2.2.2.2.1⟩ ⟨hres.2.2.2.2.2.2.2.2.2.2.2.2.2⟩
end Go.Proofs.YtflmbhkjhfmeoaaGreat
namespace Go.Proofs.YtflmbhkjhfmeoaaGreat
open Go.SL
set_option maxHeartbeats 8000000
set_option maxRecDepth 20000
section
variable (t d e : Nat) (m : Lay) (w : Wld) (mt : Tay) (tab : Tab) (S : List Sy) (u : Int)
theorem put_spec (bw : Bw w) (k : Nat) (x : Thg) (hx : w.things[k]? = some x) (place room : Int) (who : Tx) : Trip Tryz.prog 261 [.pointer (some ⟨t, 0, none⟩), .int .i64 (k : Int), .int .i64 place, .int .i64 room, str who] [ts t d e S u, wl d m w] (fun v Ps => v = .tuple #[] ∧ Ps = [ts t d e S u, wl d m (putW w k place room who)]) := by
  refine Trip.of (m := 43) Tryz.func261 rfl rfl rfl ?_
  intro o Rs
  simp only [List.cons_append, List.nil_append, enumFrom]
  have b1 := bw.nt
  have hk := (List.getElem?_eq_some_iff.1 hx).1
  have e : putW w k place room who = { w with things := w.things.set k { x with place := place, room := room, who := who } } := by rw [putW, setT, getD_of hx]
  rw [e]
  refine goW ?_
  refine ⟨?_, by simp⟩ <;> intros
  exact ret0 ⟨rfl, rfl⟩
end
end Go.Proofs.YtflmbhkjhfmeoaaGreat
namespace Go.Proofs.YtflmbhkjhfmeoaaGreat
open Go.SL
section
variable {P : Program} {n : Nat} {o : Outer} {sr : List Tmp} {ops : Array Oper} {Q : Post} {St : List HProp} {rest : List Oper} {xs : Env} {hs : List HProp}
theorem wtb {d : Nat} {m : Tay} {t : Tab} {r : List HProp} (k : TLaid m t → W P n o sr ops Q St rest xs hs) (hf : Find hs (tb d m t) r := by (exact find_)) : W P n o sr ops Q St rest xs hs := ⟨fun a w ha hw => (k (tb_open (hw.lift hf.lift)).1).run a w ha hw⟩
theorem wwl {d : Nat} {m : Lay} {t : Wld} {r : List HProp} (k : Laid m t → W P n o sr ops Q St rest xs hs) (hf : Find hs (wl d m t) r := by (exact find_)) : W P n o sr ops Q St rest xs hs := ⟨fun a w ha hw => (k (wl_open (hw.lift hf.lift)).1).run a w ha hw⟩
theorem ctb {d : Nat} {m : Tay} {t : Tab} {r : List HProp} {c : Code} (k : TLaid m t → C P n o Q c xs hs) (hf : Find hs (tb d m t) r := by (exact find_)) : C P n o Q c xs hs := ⟨fun a w ha hw => (k (tb_open (hw.lift hf.lift)).1).run a w ha hw⟩
theorem cwl {d : Nat} {m : Lay} {t : Wld} {r : List HProp} {c : Code} (k : Laid m t → C P n o Q c xs hs) (hf : Find hs (wl d m t) r := by (exact find_)) : C P n o Q c xs hs := ⟨fun a w ha hw => (k (wl_open (hw.lift hf.lift)).1).run a w ha hw⟩
end
end Go.Proofs.YtflmbhkjhfmeoaaGreat
namespace Go.Proofs.YtflmbhkjhfmeoaaGreat
open Go.SL
theorem map_stp {α β : Type} {l : List α} {k : Nat} {i : α} (f : α → β) (h : l[k]? = some i) : (l.take (k + 1)).map f = (l.take k).map f ++ [f i] := by
  rw [List.take_add_one, h, List.map_append]; rfl
def newM (l : List Mpr) : List Mob := l.zipIdx.map fun p => ⟨(p.2 : Int) + 1, p.1.id, p.1.home, p.1.hp⟩
def newI (l : List Shp) : List Till := l.map fun s => ⟨s.room, s.till⟩
def newG (l : List Shp) : Int := (l.map (·.till)).foldl (· + ·) 0
def newW (t : Tab) : Wld := ⟨0, (t.mobs.length : Int) + 1, newG t.shops, [], [], newM t.mobs, [], [], newI t.shops⟩
theorem newM_step {l : List Mpr} {k : Nat} {x : Mpr} (h : l[k]? = some x) : newM (l.take (k + 1)) = newM (l.take k) ++ [⟨(k : Int) + 1, x.id, x.home, x.hp⟩] := by
  have hk := (List.getElem?_eq_some_iff.1 h).1
  rw [List.take_add_one, h]
  simp [newM, List.zipIdx_append, List.length_take, Nat.min_eq_left (Nat.le_of_lt hk)]
theorem newM_len (l : List Mpr) : (newM l).length = l.length := by simp [newM]
theorem newI_step {l : List Shp} {k : Nat} {x : Shp} (h : l[k]? = some x) : newI (l.take (k + 1)) = newI (l.take k) ++ [⟨x.room, x.till⟩] := map_stp _ h
theorem newI_len (l : List Shp) : (newI l).length = l.length := by simp [newI]
theorem newG_step {l : List Shp} {k : Nat} {x : Shp} (h : l[k]? = some x) : newG (l.take (k + 1)) = newG (l.take k) + x.till := by
  rw [newG, map_stp _ h, List.foldl_append]; rfl
theorem newG_le {l : List Shp} (hl : ∀ s ∈ l, 0 ≤ s.till ∧ s.till ≤ 1099511627776) : ∀ (k : Nat), k ≤ l.length → 0 ≤ newG (l.take k) ∧ newG (l.take k) ≤ 1099511627776 * k
  | 0, _ => by simp [newG]
  | k + 1, hk => by
    have h1 := newG_le hl k (by omega)
    have h2 := hl l[k] (List.getElem_mem (by omega))
    rw [newG_step (List.getElem?_eq_getElem (by omega))]; omega
end Go.Proofs.YtflmbhkjhfmeoaaGreat
namespace Go.Proofs.YtflmbhkjhfmeoaaGreat
open Go.SL
set_option maxHeartbeats 8000000
set_option maxRecDepth 20000
theorem find_back {hs : List HProp} {A : HProp} {r : List HProp} (h : Find hs A r) : Lift (A :: r) hs := by
  induction h with
  | here => exact .refl _
  | there _ ih => exact (Lift.swap _ _ _).trans (ih.cons _)
theorem lift_app {a b : List HProp} (h : Lift a b) (Rs : List HProp) : Lift (a ++ Rs) (b ++ Rs) := by
  intro l hl
  obtain ⟨l1, l2, rfl, h1, h2⟩ := List.map_eq_append_iff.1 hl
  obtain ⟨l1', g1, g2, g3⟩ := h l1 h1
  refine ⟨l1' ++ l2, by simp [g1, h2], fun p hp => ?_, fun hp => ?_⟩
  · rcases List.mem_append.1 hp with hp | hp
    · exact (g2 p hp).imp (List.mem_append_left _) id
    · exact .inl (List.mem_append_right _ hp)
  · rw [List.pairwise_append] at hp ⊢
    refine ⟨g3 hp.1, hp.2.1, fun p hp1 q hq => ?_⟩
    rcases g2 p hp1 with h | ⟨_, h⟩
    · exact hp.2.2 p h q hq
    · show Compat p.2 q.2
      rw [h]; exact Compat.emp_left _
theorem ent_app : ∀ (Qs Rs : List HProp), Ent (Qs ++ Rs) Qs Rs
  | [], _ => .done
  | _ :: Qs, Rs => .take .here (ent_app Qs Rs)
theorem any_of {α : Type} {l : List α} {p : α → Bool} : decide ((0 : Int) ≤ iv (l.findIdx? p)) = l.any p := by
  cases h : l.findIdx? p with
  | none =>
    have h2 := List.findIdx?_eq_none_iff.1 h
    rw [show l.any p = false from by simpa using h2]; rfl
  | some k =>
    obtain ⟨x, hx, hp⟩ := find_get h
    rw [show l.any p = true from List.any_eq_true.2 ⟨x, List.mem_of_getElem? hx, hp⟩]
    exact decide_eq_true (by show (0 : Int) ≤ (k : Int); omega)
theorem lift_in (X : HProp) : ∀ (Qs Rs : List HProp), Lift (X :: (Qs ++ Rs)) (Qs ++ X :: Rs)
  | [], _ => .refl _
  | Q :: Qs, Rs => (Lift.swap _ _ _).trans ((lift_in X Qs Rs).cons Q)
theorem lift_out (X : HProp) : ∀ (Qs Rs : List HProp), Lift (Qs ++ X :: Rs) (X :: (Qs ++ Rs))
  | [], _ => .refl _
  | Q :: Qs, Rs => ((lift_out X Qs Rs).cons Q).trans (Lift.swap _ _ _)
theorem lift_in2 (X Y : HProp) (Qs Rs : List HProp) : Lift (X :: Y :: (Qs ++ Rs)) (Qs ++ X :: Y :: Rs) := ((lift_in Y Qs Rs).cons X).trans (lift_in X Qs (Y :: Rs))
theorem lift_out2 (X Y : HProp) (Qs Rs : List HProp) : Lift (Qs ++ X :: Y :: Rs) (X :: Y :: (Qs ++ Rs)) := (lift_out X Qs (Y :: Rs)).trans ((lift_out Y Qs Rs).cons X)
theorem all_any {α : Type} (l : List α) (p : α → Bool) : (!(l.any fun x => !p x)) = l.all p := by
  induction l with
  | nil => rfl
  | cons x l ih => simp only [List.any_cons, List.all_cons, Bool.not_or, Bool.not_not, ih]
theorem idx_mob (l : List (Mob)) (A : Option Addr) (c : Nat) (hl : l.length ≤ 1000000) (P : HProp) (hP : Reads P (Em) A l) (fn : Nat) [hc : Callable Tryz.prog fn] (cap : List Value) (Qs r : List HProp) (hf : Find Qs P r) (p : Mob → Bool)
    (hF : ∀ x ∈ l, Trip Tryz.prog fn ([.agg (mobC x).toArray] ++ cap) Qs (fun v Ps => v = .bool (p x) ∧ Ps = Qs)) :
    Trip Tryz.prog 148 [.slice A l.length c, .func (.func fn) #[] cap.toArray] Qs (fun v Ps => v = .int .i64 (iv (l.findIdx? p)) ∧ Ps = Qs) := by
  refine Trip.of (m := 19) Tryz.func148 rfl rfl rfl ?_
  intro o Rs
  simp only [List.cons_append, List.nil_append, enumFrom]
  refine C.lift (lift_app hf.lift Rs) ?_
  rw [List.cons_append]
  generalize hT : r ++ Rs = T
  refine go ?_
  refine ⟨?_, by simp⟩ <;> intros
  refine loop (fun k => k ≤ l.length ∧ (l.take k).findIdx? p = none) (fun k => [(0, .slice A l.length c), (1, .func (.func fn) #[] cap.toArray), (7, .int .i64 (l.length : Int)), (8, .int .i64 (k : Int))]) (fun k => P :: T) (fun k => l.length - k) 0 ⟨Nat.zero_le _, find_zero⟩ fun k ⟨h1, h2⟩ => ?_
  by_cases hk : k < l.length
  · obtain ⟨x, hx⟩ : ∃ x, l[k]? = some x := ⟨_, List.getElem?_eq_getElem hk⟩
    have F1 := hF x (List.mem_of_getElem? hx)
    refine go ?_
    refine ⟨?_, by simp⟩ <;> intros
    refine W.lift (hs' := Qs ++ Rs) (by subst hT; exact lift_app (find_back hf) Rs) ?_
    refine W.callv rfl rfl rfl (ent_app Qs Rs) rfl .nil F1 ?_
    rintro _ Ps ⟨rfl, e⟩
    rw [e]
    refine W.lift (hs' := P :: T) (by subst hT; exact lift_app hf.lift Rs) ?_
    cases hp : p x
    · refine go ?_
      refine ⟨?_, by simp⟩ <;> intros
      exact rnd (k + 1) ⟨hk, find_miss h2 hx hp⟩ (by omega)
    · have hfi := find_hit h2 hx hp
      refine go ?_
      refine ⟨?_, by simp⟩ <;> intros
      refine E.lift (hs' := Qs ++ Rs) (by subst hT; exact lift_app (find_back hf) Rs) ?_
      exact ret1 ⟨by rw [hfi], rfl⟩ (hh := ent_app Qs Rs)
  · have hfi := find_end h2 hk
    refine go ?_
    refine ⟨?_, by simp⟩ <;> intros
    refine E.lift (hs' := Qs ++ Rs) (by subst hT; exact lift_app (find_back hf) Rs) ?_
    exact ret1 ⟨by rw [hfi], rfl⟩ (hh := ent_app Qs Rs)
theorem idx_thg (l : List (Thg)) (A : Option Addr) (c : Nat) (hl : l.length ≤ 1000000) (P : HProp) (hP : Reads P (Et) A l) (fn : Nat) [hc : Callable Tryz.prog fn] (cap : List Value) (Qs r : List HProp) (hf : Find Qs P r) (p : Thg → Bool)
    (hF : ∀ x ∈ l, Trip Tryz.prog fn ([.agg (thgC x).toArray] ++ cap) Qs (fun v Ps => v = .bool (p x) ∧ Ps = Qs)) :
    Trip Tryz.prog 90 [.slice A l.length c, .func (.func fn) #[] cap.toArray] Qs (fun v Ps => v = .int .i64 (iv (l.findIdx? p)) ∧ Ps = Qs) := by
  refine Trip.of (m := 19) Tryz.func90 rfl rfl rfl ?_
  intro o Rs
  simp only [List.cons_append, List.nil_append, enumFrom]
  refine C.lift (lift_app hf.lift Rs) ?_
  rw [List.cons_append]
  generalize hT : r ++ Rs = T
  refine go ?_
  refine ⟨?_, by simp⟩ <;> intros
  refine loop (fun k => k ≤ l.length ∧ (l.take k).findIdx? p = none) (fun k => [(0, .slice A l.length c), (1, .func (.func fn) #[] cap.toArray), (7, .int .i64 (l.length : Int)), (8, .int .i64 (k : Int))]) (fun k => P :: T) (fun k => l.length - k) 0 ⟨Nat.zero_le _, find_zero⟩ fun k ⟨h1, h2⟩ => ?_
  by_cases hk : k < l.length
  · obtain ⟨x, hx⟩ : ∃ x, l[k]? = some x := ⟨_, List.getElem?_eq_getElem hk⟩
    have F1 := hF x (List.mem_of_getElem? hx)
    refine go ?_
    refine ⟨?_, by simp⟩ <;> intros
    refine W.lift (hs' := Qs ++ Rs) (by subst hT; exact lift_app (find_back hf) Rs) ?_
    refine W.callv rfl rfl rfl (ent_app Qs Rs) rfl .nil F1 ?_
    rintro _ Ps ⟨rfl, e⟩
    rw [e]
    refine W.lift (hs' := P :: T) (by subst hT; exact lift_app hf.lift Rs) ?_
    cases hp : p x
    · refine go ?_
      refine ⟨?_, by simp⟩ <;> intros
      exact rnd (k + 1) ⟨hk, find_miss h2 hx hp⟩ (by omega)
    · have hfi := find_hit h2 hx hp
      refine go ?_
      refine ⟨?_, by simp⟩ <;> intros
      refine E.lift (hs' := Qs ++ Rs) (by subst hT; exact lift_app (find_back hf) Rs) ?_
      exact ret1 ⟨by rw [hfi], rfl⟩ (hh := ent_app Qs Rs)
  · have hfi := find_end h2 hk
    refine go ?_
    refine ⟨?_, by simp⟩ <;> intros
    refine E.lift (hs' := Qs ++ Rs) (by subst hT; exact lift_app (find_back hf) Rs) ?_
    exact ret1 ⟨by rw [hfi], rfl⟩ (hh := ent_app Qs Rs)
theorem idx_lot (l : List (Lot)) (A : Option Addr) (c : Nat) (hl : l.length ≤ 1000000) (P : HProp) (hP : Reads P (El) A l) (fn : Nat) [hc : Callable Tryz.prog fn] (cap : List Value) (Qs r : List HProp) (hf : Find Qs P r) (p : Lot → Bool)
    (hF : ∀ x ∈ l, Trip Tryz.prog fn ([.agg (lotC x).toArray] ++ cap) Qs (fun v Ps => v = .bool (p x) ∧ Ps = Qs)) :
    Trip Tryz.prog 257 [.slice A l.length c, .func (.func fn) #[] cap.toArray] Qs (fun v Ps => v = .int .i64 (iv (l.findIdx? p)) ∧ Ps = Qs) := by
  refine Trip.of (m := 19) Tryz.func257 rfl rfl rfl ?_
  intro o Rs
  simp only [List.cons_append, List.nil_append, enumFrom]
  refine C.lift (lift_app hf.lift Rs) ?_
  rw [List.cons_append]
  generalize hT : r ++ Rs = T
  refine go ?_
  refine ⟨?_, by simp⟩ <;> intros
  refine loop (fun k => k ≤ l.length ∧ (l.take k).findIdx? p = none) (fun k => [(0, .slice A l.length c), (1, .func (.func fn) #[] cap.toArray), (7, .int .i64 (l.length : Int)), (8, .int .i64 (k : Int))]) (fun k => P :: T) (fun k => l.length - k) 0 ⟨Nat.zero_le _, find_zero⟩ fun k ⟨h1, h2⟩ => ?_
  by_cases hk : k < l.length
  · obtain ⟨x, hx⟩ : ∃ x, l[k]? = some x := ⟨_, List.getElem?_eq_getElem hk⟩
    have F1 := hF x (List.mem_of_getElem? hx)
    refine go ?_
    refine ⟨?_, by simp⟩ <;> intros
    refine W.lift (hs' := Qs ++ Rs) (by subst hT; exact lift_app (find_back hf) Rs) ?_
    refine W.callv rfl rfl rfl (ent_app Qs Rs) rfl .nil F1 ?_
    rintro _ Ps ⟨rfl, e⟩
    rw [e]
    refine W.lift (hs' := P :: T) (by subst hT; exact lift_app hf.lift Rs) ?_
    cases hp : p x
    · refine go ?_
      refine ⟨?_, by simp⟩ <;> intros
      exact rnd (k + 1) ⟨hk, find_miss h2 hx hp⟩ (by omega)
    · have hfi := find_hit h2 hx hp
      refine go ?_
      refine ⟨?_, by simp⟩ <;> intros
      refine E.lift (hs' := Qs ++ Rs) (by subst hT; exact lift_app (find_back hf) Rs) ?_
      exact ret1 ⟨by rw [hfi], rfl⟩ (hh := ent_app Qs Rs)
  · have hfi := find_end h2 hk
    refine go ?_
    refine ⟨?_, by simp⟩ <;> intros
    refine E.lift (hs' := Qs ++ Rs) (by subst hT; exact lift_app (find_back hf) Rs) ?_
    exact ret1 ⟨by rw [hfi], rfl⟩ (hh := ent_app Qs Rs)
theorem idx_chr (l : List (Chr × PA)) (A : Option Addr) (c : Nat) (hl : l.length ≤ 1000000) (P : HProp) (hP : Reads P (Ec) A l) (fn : Nat) [hc : Callable Tryz.prog fn] (cap : List Value) (Qs r : List HProp) (hf : Find Qs P r) (p : Chr × PA → Bool)
    (hF : ∀ x ∈ l, Trip Tryz.prog fn ([.agg (chrC x.1 x.2).toArray] ++ cap) Qs (fun v Ps => v = .bool (p x) ∧ Ps = Qs)) :
    Trip Tryz.prog 96 [.slice A l.length c, .func (.func fn) #[] cap.toArray] Qs (fun v Ps => v = .int .i64 (iv (l.findIdx? p)) ∧ Ps = Qs) := by
  refine Trip.of (m := 19) Tryz.func96 rfl rfl rfl ?_
  intro o Rs
  simp only [List.cons_append, List.nil_append, enumFrom]
  refine C.lift (lift_app hf.lift Rs) ?_
  rw [List.cons_append]
  generalize hT : r ++ Rs = T
  refine go ?_
  refine ⟨?_, by simp⟩ <;> intros
  refine loop (fun k => k ≤ l.length ∧ (l.take k).findIdx? p = none) (fun k => [(0, .slice A l.length c), (1, .func (.func fn) #[] cap.toArray), (7, .int .i64 (l.length : Int)), (8, .int .i64 (k : Int))]) (fun k => P :: T) (fun k => l.length - k) 0 ⟨Nat.zero_le _, find_zero⟩ fun k ⟨h1, h2⟩ => ?_
  by_cases hk : k < l.length
  · obtain ⟨x, hx⟩ : ∃ x, l[k]? = some x := ⟨_, List.getElem?_eq_getElem hk⟩
    have F1 := hF x (List.mem_of_getElem? hx)
    refine go ?_
    refine ⟨?_, by simp⟩ <;> intros
    refine W.lift (hs' := Qs ++ Rs) (by subst hT; exact lift_app (find_back hf) Rs) ?_
    refine W.callv rfl rfl rfl (ent_app Qs Rs) rfl .nil F1 ?_
    rintro _ Ps ⟨rfl, e⟩
    rw [e]
    refine W.lift (hs' := P :: T) (by subst hT; exact lift_app hf.lift Rs) ?_
    cases hp : p x
    · refine go ?_
      refine ⟨?_, by simp⟩ <;> intros
      exact rnd (k + 1) ⟨hk, find_miss h2 hx hp⟩ (by omega)
    · have hfi := find_hit h2 hx hp
      refine go ?_
      refine ⟨?_, by simp⟩ <;> intros
      refine E.lift (hs' := Qs ++ Rs) (by subst hT; exact lift_app (find_back hf) Rs) ?_
      exact ret1 ⟨by rw [hfi], rfl⟩ (hh := ent_app Qs Rs)
  · have hfi := find_end h2 hk
    refine go ?_
    refine ⟨?_, by simp⟩ <;> intros
    refine E.lift (hs' := Qs ++ Rs) (by subst hT; exact lift_app (find_back hf) Rs) ?_
    exact ret1 ⟨by rw [hfi], rfl⟩ (hh := ent_app Qs Rs)
theorem idx_hse (l : List (Hse × PA)) (A : Option Addr) (c : Nat) (hl : l.length ≤ 1000000) (P : HProp) (hP : Reads P (Eh) A l) (fn : Nat) [hc : Callable Tryz.prog fn] (cap : List Value) (Qs r : List HProp) (hf : Find Qs P r) (p : Hse × PA → Bool)
    (hF : ∀ x ∈ l, Trip Tryz.prog fn ([.agg (hseC x.1 x.2).toArray] ++ cap) Qs (fun v Ps => v = .bool (p x) ∧ Ps = Qs)) :
    Trip Tryz.prog 123 [.slice A l.length c, .func (.func fn) #[] cap.toArray] Qs (fun v Ps => v = .int .i64 (iv (l.findIdx? p)) ∧ Ps = Qs) := by
  refine Trip.of (m := 19) Tryz.func123 rfl rfl rfl ?_
  intro o Rs
  simp only [List.cons_append, List.nil_append, enumFrom]
  refine C.lift (lift_app hf.lift Rs) ?_
  rw [List.cons_append]
  generalize hT : r ++ Rs = T
  refine go ?_
  refine ⟨?_, by simp⟩ <;> intros
  refine loop (fun k => k ≤ l.length ∧ (l.take k).findIdx? p = none) (fun k => [(0, .slice A l.length c), (1, .func (.func fn) #[] cap.toArray), (7, .int .i64 (l.length : Int)), (8, .int .i64 (k : Int))]) (fun k => P :: T) (fun k => l.length - k) 0 ⟨Nat.zero_le _, find_zero⟩ fun k ⟨h1, h2⟩ => ?_
  by_cases hk : k < l.length
  · obtain ⟨x, hx⟩ : ∃ x, l[k]? = some x := ⟨_, List.getElem?_eq_getElem hk⟩
    have F1 := hF x (List.mem_of_getElem? hx)
    refine go ?_
    refine ⟨?_, by simp⟩ <;> intros
    refine W.lift (hs' := Qs ++ Rs) (by subst hT; exact lift_app (find_back hf) Rs) ?_
    refine W.callv rfl rfl rfl (ent_app Qs Rs) rfl .nil F1 ?_
    rintro _ Ps ⟨rfl, e⟩
    rw [e]
    refine W.lift (hs' := P :: T) (by subst hT; exact lift_app hf.lift Rs) ?_
    cases hp : p x
    · refine go ?_
      refine ⟨?_, by simp⟩ <;> intros
      exact rnd (k + 1) ⟨hk, find_miss h2 hx hp⟩ (by omega)
    · have hfi := find_hit h2 hx hp
      refine go ?_
      refine ⟨?_, by simp⟩ <;> intros
      refine E.lift (hs' := Qs ++ Rs) (by subst hT; exact lift_app (find_back hf) Rs) ?_
      exact ret1 ⟨by rw [hfi], rfl⟩ (hh := ent_app Qs Rs)
  · have hfi := find_end h2 hk
    refine go ?_
    refine ⟨?_, by simp⟩ <;> intros
    refine E.lift (hs' := Qs ++ Rs) (by subst hT; exact lift_app (find_back hf) Rs) ?_
    exact ret1 ⟨by rw [hfi], rfl⟩ (hh := ent_app Qs Rs)
theorem idx_int (l : List (Int)) (A : Option Addr) (c : Nat) (hl : l.length ≤ 1000000) (P : HProp) (hP : Reads P (E64) A l) (fn : Nat) [hc : Callable Tryz.prog fn] (cap : List Value) (Qs r : List HProp) (hf : Find Qs P r) (p : Int → Bool)
    (hF : ∀ x ∈ l, Trip Tryz.prog fn ([.int .i64 x] ++ cap) Qs (fun v Ps => v = .bool (p x) ∧ Ps = Qs)) :
    Trip Tryz.prog 291 [.slice A l.length c, .func (.func fn) #[] cap.toArray] Qs (fun v Ps => v = .int .i64 (iv (l.findIdx? p)) ∧ Ps = Qs) := by
  refine Trip.of (m := 19) Tryz.func291 rfl rfl rfl ?_
  intro o Rs
  simp only [List.cons_append, List.nil_append, enumFrom]
  refine C.lift (lift_app hf.lift Rs) ?_
  rw [List.cons_append]
  generalize hT : r ++ Rs = T
  refine go ?_
  refine ⟨?_, by simp⟩ <;> intros
  refine loop (fun k => k ≤ l.length ∧ (l.take k).findIdx? p = none) (fun k => [(0, .slice A l.length c), (1, .func (.func fn) #[] cap.toArray), (7, .int .i64 (l.length : Int)), (8, .int .i64 (k : Int))]) (fun k => P :: T) (fun k => l.length - k) 0 ⟨Nat.zero_le _, find_zero⟩ fun k ⟨h1, h2⟩ => ?_
  by_cases hk : k < l.length
  · obtain ⟨x, hx⟩ : ∃ x, l[k]? = some x := ⟨_, List.getElem?_eq_getElem hk⟩
    have F1 := hF x (List.mem_of_getElem? hx)
    refine go ?_
    refine ⟨?_, by simp⟩ <;> intros
    refine W.lift (hs' := Qs ++ Rs) (by subst hT; exact lift_app (find_back hf) Rs) ?_
    refine W.callv rfl rfl rfl (ent_app Qs Rs) rfl .nil F1 ?_
    rintro _ Ps ⟨rfl, e⟩
    rw [e]
    refine W.lift (hs' := P :: T) (by subst hT; exact lift_app hf.lift Rs) ?_
    cases hp : p x
    · refine go ?_
      refine ⟨?_, by simp⟩ <;> intros
      exact rnd (k + 1) ⟨hk, find_miss h2 hx hp⟩ (by omega)
    · have hfi := find_hit h2 hx hp
      refine go ?_
      refine ⟨?_, by simp⟩ <;> intros
      refine E.lift (hs' := Qs ++ Rs) (by subst hT; exact lift_app (find_back hf) Rs) ?_
      exact ret1 ⟨by rw [hfi], rfl⟩ (hh := ent_app Qs Rs)
  · have hfi := find_end h2 hk
    refine go ?_
    refine ⟨?_, by simp⟩ <;> intros
    refine E.lift (hs' := Qs ++ Rs) (by subst hT; exact lift_app (find_back hf) Rs) ?_
    exact ret1 ⟨by rw [hfi], rfl⟩ (hh := ent_app Qs Rs)
theorem ct_mob (l : List (Mob)) (A : Option Addr) (c : Nat) (hl : l.length ≤ 1000000) (P : HProp) (hP : Reads P (Em) A l) (fn : Nat) [hc : Callable Tryz.prog fn] (cap : List Value) (Qs r : List HProp) (hf : Find Qs P r) (p : Mob → Bool)
    (hF : ∀ x ∈ l, Trip Tryz.prog fn ([.agg (mobC x).toArray] ++ cap) Qs (fun v Ps => v = .bool (p x) ∧ Ps = Qs)) :
    Trip Tryz.prog 190 [.slice A l.length c, .func (.func fn) #[] cap.toArray] Qs (fun v Ps => v = .bool (l.any p) ∧ Ps = Qs) := by
  refine Trip.of (m := 9) Tryz.func190 rfl rfl rfl ?_
  intro o Rs
  simp only [List.cons_append, List.nil_append, enumFrom]
  have F1 := idx_mob l A c hl P hP fn cap Qs r hf p hF
  refine go ?_
  refine ⟨?_, by simp⟩ <;> intros
  refine W.callp rfl (ent_app Qs Rs) rfl .nil F1 ?_
  rintro _ rfl
  refine go ?_
  refine ⟨?_, by simp⟩ <;> intros
  exact ret1 ⟨congrArg Value.bool any_of, rfl⟩ (hh := ent_app Qs Rs)
theorem ct_thg (l : List (Thg)) (A : Option Addr) (c : Nat) (hl : l.length ≤ 1000000) (P : HProp) (hP : Reads P (Et) A l) (fn : Nat) [hc : Callable Tryz.prog fn] (cap : List Value) (Qs r : List HProp) (hf : Find Qs P r) (p : Thg → Bool)
    (hF : ∀ x ∈ l, Trip Tryz.prog fn ([.agg (thgC x).toArray] ++ cap) Qs (fun v Ps => v = .bool (p x) ∧ Ps = Qs)) :
    Trip Tryz.prog 186 [.slice A l.length c, .func (.func fn) #[] cap.toArray] Qs (fun v Ps => v = .bool (l.any p) ∧ Ps = Qs) := by
  refine Trip.of (m := 9) Tryz.func186 rfl rfl rfl ?_
  intro o Rs
  simp only [List.cons_append, List.nil_append, enumFrom]
  have F1 := idx_thg l A c hl P hP fn cap Qs r hf p hF
  refine go ?_
  refine ⟨?_, by simp⟩ <;> intros
  refine W.callp rfl (ent_app Qs Rs) rfl .nil F1 ?_
  rintro _ rfl
  refine go ?_
  refine ⟨?_, by simp⟩ <;> intros
  exact ret1 ⟨congrArg Value.bool any_of, rfl⟩ (hh := ent_app Qs Rs)
theorem ct_lot (l : List (Lot)) (A : Option Addr) (c : Nat) (hl : l.length ≤ 1000000) (P : HProp) (hP : Reads P (El) A l) (fn : Nat) [hc : Callable Tryz.prog fn] (cap : List Value) (Qs r : List HProp) (hf : Find Qs P r) (p : Lot → Bool)
    (hF : ∀ x ∈ l, Trip Tryz.prog fn ([.agg (lotC x).toArray] ++ cap) Qs (fun v Ps => v = .bool (p x) ∧ Ps = Qs)) :
    Trip Tryz.prog 206 [.slice A l.length c, .func (.func fn) #[] cap.toArray] Qs (fun v Ps => v = .bool (l.any p) ∧ Ps = Qs) := by
  refine Trip.of (m := 9) Tryz.func206 rfl rfl rfl ?_
  intro o Rs
  simp only [List.cons_append, List.nil_append, enumFrom]
  have F1 := idx_lot l A c hl P hP fn cap Qs r hf p hF
  refine go ?_
  refine ⟨?_, by simp⟩ <;> intros
  refine W.callp rfl (ent_app Qs Rs) rfl .nil F1 ?_
  rintro _ rfl
  refine go ?_
  refine ⟨?_, by simp⟩ <;> intros
  exact ret1 ⟨congrArg Value.bool any_of, rfl⟩ (hh := ent_app Qs Rs)
theorem ct_chr (l : List (Chr × PA)) (A : Option Addr) (c : Nat) (hl : l.length ≤ 1000000) (P : HProp) (hP : Reads P (Ec) A l) (fn : Nat) [hc : Callable Tryz.prog fn] (cap : List Value) (Qs r : List HProp) (hf : Find Qs P r) (p : Chr × PA → Bool)
    (hF : ∀ x ∈ l, Trip Tryz.prog fn ([.agg (chrC x.1 x.2).toArray] ++ cap) Qs (fun v Ps => v = .bool (p x) ∧ Ps = Qs)) :
    Trip Tryz.prog 192 [.slice A l.length c, .func (.func fn) #[] cap.toArray] Qs (fun v Ps => v = .bool (l.any p) ∧ Ps = Qs) := by
  refine Trip.of (m := 9) Tryz.func192 rfl rfl rfl ?_
  intro o Rs
  simp only [List.cons_append, List.nil_append, enumFrom]
  have F1 := idx_chr l A c hl P hP fn cap Qs r hf p hF
  refine go ?_
  refine ⟨?_, by simp⟩ <;> intros
  refine W.callp rfl (ent_app Qs Rs) rfl .nil F1 ?_
  rintro _ rfl
  refine go ?_
  refine ⟨?_, by simp⟩ <;> intros
  exact ret1 ⟨congrArg Value.bool any_of, rfl⟩ (hh := ent_app Qs Rs)
theorem ct_hse (l : List (Hse × PA)) (A : Option Addr) (c : Nat) (hl : l.length ≤ 1000000) (P : HProp) (hP : Reads P (Eh) A l) (fn : Nat) [hc : Callable Tryz.prog fn] (cap : List Value) (Qs r : List HProp) (hf : Find Qs P r) (p : Hse × PA → Bool)
    (hF : ∀ x ∈ l, Trip Tryz.prog fn ([.agg (hseC x.1 x.2).toArray] ++ cap) Qs (fun v Ps => v = .bool (p x) ∧ Ps = Qs)) :
    Trip Tryz.prog 202 [.slice A l.length c, .func (.func fn) #[] cap.toArray] Qs (fun v Ps => v = .bool (l.any p) ∧ Ps = Qs) := by
  refine Trip.of (m := 9) Tryz.func202 rfl rfl rfl ?_
  intro o Rs
  simp only [List.cons_append, List.nil_append, enumFrom]
  have F1 := idx_hse l A c hl P hP fn cap Qs r hf p hF
  refine go ?_
  refine ⟨?_, by simp⟩ <;> intros
  refine W.callp rfl (ent_app Qs Rs) rfl .nil F1 ?_
  rintro _ rfl
  refine go ?_
  refine ⟨?_, by simp⟩ <;> intros
  exact ret1 ⟨congrArg Value.bool any_of, rfl⟩ (hh := ent_app Qs Rs)
theorem ct_int (l : List (Int)) (A : Option Addr) (c : Nat) (hl : l.length ≤ 1000000) (P : HProp) (hP : Reads P (E64) A l) (fn : Nat) [hc : Callable Tryz.prog fn] (cap : List Value) (Qs r : List HProp) (hf : Find Qs P r) (p : Int → Bool)
    (hF : ∀ x ∈ l, Trip Tryz.prog fn ([.int .i64 x] ++ cap) Qs (fun v Ps => v = .bool (p x) ∧ Ps = Qs)) :
    Trip Tryz.prog 281 [.slice A l.length c, .func (.func fn) #[] cap.toArray] Qs (fun v Ps => v = .bool (l.any p) ∧ Ps = Qs) := by
  refine Trip.of (m := 9) Tryz.func281 rfl rfl rfl ?_
  intro o Rs
  simp only [List.cons_append, List.nil_append, enumFrom]
  have F1 := idx_int l A c hl P hP fn cap Qs r hf p hF
  refine go ?_
  refine ⟨?_, by simp⟩ <;> intros
  refine W.callp rfl (ent_app Qs Rs) rfl .nil F1 ?_
  rintro _ rfl
  refine go ?_
  refine ⟨?_, by simp⟩ <;> intros
  exact ret1 ⟨congrArg Value.bool any_of, rfl⟩ (hh := ent_app Qs Rs)
theorem all1_mob (x : Mob) (fn : Nat) [hc : Callable Tryz.prog fn] (cap : List Value) (Qs : List HProp) (p : Mob → Bool) (b : Nat) (h : Trip Tryz.prog fn ([.agg (mobC x).toArray] ++ cap) Qs (fun v Ps => v = .bool (p x) ∧ Ps = Qs)) :
    Trip Tryz.prog 191 ([.agg (mobC x).toArray] ++ [.pointer (some ⟨b, 0, none⟩)]) (blk b 159 [.func (.func fn) #[] cap.toArray] :: Qs) (fun v Ps => v = .bool (!p x) ∧ Ps = blk b 159 [.func (.func fn) #[] cap.toArray] :: Qs) := by
  refine Trip.of (m := 8) Tryz.func191 rfl rfl rfl ?_
  intro o Rs
  simp only [List.cons_append, List.nil_append, enumFrom]
  refine go ?_
  refine ⟨?_, by simp⟩ <;> intros
  refine W.lift (lift_in2 _ _ Qs Rs) ?_
  refine W.callv rfl rfl rfl (ent_app Qs _) rfl .nil h ?_
  rintro _ Ps ⟨rfl, e⟩
  rw [e]
  refine W.lift (lift_out2 _ _ Qs Rs) ?_
  refine go ?_
  refine ⟨?_, by simp⟩ <;> intros
  exact ret1 ⟨rfl, rfl⟩ (hh := .drop (.take .here (ent_app _ _)))
theorem all_mob (l : List (Mob)) (A : Option Addr) (c : Nat) (hl : l.length ≤ 1000000) (P : HProp) (hP : Reads P (Em) A l) (fn : Nat) [hc : Callable Tryz.prog fn] (cap : List Value) (Qs r : List HProp) (hf : Find Qs P r) (p : Mob → Bool)
    (hF : ∀ x ∈ l, Trip Tryz.prog fn ([.agg (mobC x).toArray] ++ cap) Qs (fun v Ps => v = .bool (p x) ∧ Ps = Qs)) :
    Trip Tryz.prog 133 [.slice A l.length c, .func (.func fn) #[] cap.toArray] Qs (fun v Ps => v = .bool (l.all p) ∧ Ps = Qs) := by
  refine Trip.of (m := 9) Tryz.func133 rfl rfl rfl ?_
  intro o Rs
  simp only [List.cons_append, List.nil_append, enumFrom]
  refine go ?_
  refine ⟨?_, by simp⟩ <;> intros
  rename_i b
  have F1 := ct_mob l A c hl P hP 191 [.pointer (some ⟨b, 0, none⟩)] (blk b 159 [.func (.func fn) #[] cap.toArray] :: Qs) (blk b 159 [.func (.func fn) #[] cap.toArray] :: r) (.there hf) (fun x => !p x) (fun x hx => all1_mob x fn cap Qs p b (hF x hx))
  refine W.callp rfl (ent_app (_ :: Qs) Rs) rfl .nil F1 ?_
  rintro _ rfl
  refine go ?_
  refine ⟨?_, by simp⟩ <;> intros
  exact ret1 ⟨by rw [← all_any], rfl⟩ (hh := .drop (ent_app Qs Rs))
theorem all1_thg (x : Thg) (fn : Nat) [hc : Callable Tryz.prog fn] (cap : List Value) (Qs : List HProp) (p : Thg → Bool) (b : Nat) (h : Trip Tryz.prog fn ([.agg (thgC x).toArray] ++ cap) Qs (fun v Ps => v = .bool (p x) ∧ Ps = Qs)) :
    Trip Tryz.prog 187 ([.agg (thgC x).toArray] ++ [.pointer (some ⟨b, 0, none⟩)]) (blk b 152 [.func (.func fn) #[] cap.toArray] :: Qs) (fun v Ps => v = .bool (!p x) ∧ Ps = blk b 152 [.func (.func fn) #[] cap.toArray] :: Qs) := by
  refine Trip.of (m := 8) Tryz.func187 rfl rfl rfl ?_
  intro o Rs
  simp only [List.cons_append, List.nil_append, enumFrom]
  refine go ?_
  refine ⟨?_, by simp⟩ <;> intros
  refine W.lift (lift_in2 _ _ Qs Rs) ?_
  refine W.callv rfl rfl rfl (ent_app Qs _) rfl .nil h ?_
  rintro _ Ps ⟨rfl, e⟩
  rw [e]
  refine W.lift (lift_out2 _ _ Qs Rs) ?_
  refine go ?_
  refine ⟨?_, by simp⟩ <;> intros
  exact ret1 ⟨rfl, rfl⟩ (hh := .drop (.take .here (ent_app _ _)))
theorem all_thg (l : List (Thg)) (A : Option Addr) (c : Nat) (hl : l.length ≤ 1000000) (P : HProp) (hP : Reads P (Et) A l) (fn : Nat) [hc : Callable Tryz.prog fn] (cap : List Value) (Qs r : List HProp) (hf : Find Qs P r) (p : Thg → Bool)
    (hF : ∀ x ∈ l, Trip Tryz.prog fn ([.agg (thgC x).toArray] ++ cap) Qs (fun v Ps => v = .bool (p x) ∧ Ps = Qs)) :
    Trip Tryz.prog 130 [.slice A l.length c, .func (.func fn) #[] cap.toArray] Qs (fun v Ps => v = .bool (l.all p) ∧ Ps = Qs) := by
  refine Trip.of (m := 9) Tryz.func130 rfl rfl rfl ?_
  intro o Rs
  simp only [List.cons_append, List.nil_append, enumFrom]
  refine go ?_
  refine ⟨?_, by simp⟩ <;> intros
  rename_i b
  have F1 := ct_thg l A c hl P hP 187 [.pointer (some ⟨b, 0, none⟩)] (blk b 152 [.func (.func fn) #[] cap.toArray] :: Qs) (blk b 152 [.func (.func fn) #[] cap.toArray] :: r) (.there hf) (fun x => !p x) (fun x hx => all1_thg x fn cap Qs p b (hF x hx))
  refine W.callp rfl (ent_app (_ :: Qs) Rs) rfl .nil F1 ?_
  rintro _ rfl
  refine go ?_
  refine ⟨?_, by simp⟩ <;> intros
  exact ret1 ⟨by rw [← all_any], rfl⟩ (hh := .drop (ent_app Qs Rs))
theorem all1_lot (x : Lot) (fn : Nat) [hc : Callable Tryz.prog fn] (cap : List Value) (Qs : List HProp) (p : Lot → Bool) (b : Nat) (h : Trip Tryz.prog fn ([.agg (lotC x).toArray] ++ cap) Qs (fun v Ps => v = .bool (p x) ∧ Ps = Qs)) :
    Trip Tryz.prog 207 ([.agg (lotC x).toArray] ++ [.pointer (some ⟨b, 0, none⟩)]) (blk b 199 [.func (.func fn) #[] cap.toArray] :: Qs) (fun v Ps => v = .bool (!p x) ∧ Ps = blk b 199 [.func (.func fn) #[] cap.toArray] :: Qs) := by
  refine Trip.of (m := 8) Tryz.func207 rfl rfl rfl ?_
  intro o Rs
  simp only [List.cons_append, List.nil_append, enumFrom]
  refine go ?_
  refine ⟨?_, by simp⟩ <;> intros
  refine W.lift (lift_in2 _ _ Qs Rs) ?_
  refine W.callv rfl rfl rfl (ent_app Qs _) rfl .nil h ?_
  rintro _ Ps ⟨rfl, e⟩
  rw [e]
  refine W.lift (lift_out2 _ _ Qs Rs) ?_
  refine go ?_
  refine ⟨?_, by simp⟩ <;> intros
  exact ret1 ⟨rfl, rfl⟩ (hh := .drop (.take .here (ent_app _ _)))
theorem all_lot (l : List (Lot)) (A : Option Addr) (c : Nat) (hl : l.length ≤ 1000000) (P : HProp) (hP : Reads P (El) A l) (fn : Nat) [hc : Callable Tryz.prog fn] (cap : List Value) (Qs r : List HProp) (hf : Find Qs P r) (p : Lot → Bool)
    (hF : ∀ x ∈ l, Trip Tryz.prog fn ([.agg (lotC x).toArray] ++ cap) Qs (fun v Ps => v = .bool (p x) ∧ Ps = Qs)) :
    Trip Tryz.prog 142 [.slice A l.length c, .func (.func fn) #[] cap.toArray] Qs (fun v Ps => v = .bool (l.all p) ∧ Ps = Qs) := by
  refine Trip.of (m := 9) Tryz.func142 rfl rfl rfl ?_
  intro o Rs
  simp only [List.cons_append, List.nil_append, enumFrom]
  refine go ?_
  refine ⟨?_, by simp⟩ <;> intros
  rename_i b
  have F1 := ct_lot l A c hl P hP 207 [.pointer (some ⟨b, 0, none⟩)] (blk b 199 [.func (.func fn) #[] cap.toArray] :: Qs) (blk b 199 [.func (.func fn) #[] cap.toArray] :: r) (.there hf) (fun x => !p x) (fun x hx => all1_lot x fn cap Qs p b (hF x hx))
  refine W.callp rfl (ent_app (_ :: Qs) Rs) rfl .nil F1 ?_
  rintro _ rfl
  refine go ?_
  refine ⟨?_, by simp⟩ <;> intros
  exact ret1 ⟨by rw [← all_any], rfl⟩ (hh := .drop (ent_app Qs Rs))
theorem all1_chr (x : Chr × PA) (fn : Nat) [hc : Callable Tryz.prog fn] (cap : List Value) (Qs : List HProp) (p : Chr × PA → Bool) (b : Nat) (h : Trip Tryz.prog fn ([.agg (chrC x.1 x.2).toArray] ++ cap) Qs (fun v Ps => v = .bool (p x) ∧ Ps = Qs)) :
    Trip Tryz.prog 193 ([.agg (chrC x.1 x.2).toArray] ++ [.pointer (some ⟨b, 0, none⟩)]) (blk b 157 [.func (.func fn) #[] cap.toArray] :: Qs) (fun v Ps => v = .bool (!p x) ∧ Ps = blk b 157 [.func (.func fn) #[] cap.toArray] :: Qs) := by
  refine Trip.of (m := 8) Tryz.func193 rfl rfl rfl ?_
  intro o Rs
  simp only [List.cons_append, List.nil_append, enumFrom]
  refine go ?_
  refine ⟨?_, by simp⟩ <;> intros
  refine W.lift (lift_in2 _ _ Qs Rs) ?_
  refine W.callv rfl rfl rfl (ent_app Qs _) rfl .nil h ?_
  rintro _ Ps ⟨rfl, e⟩
  rw [e]
  refine W.lift (lift_out2 _ _ Qs Rs) ?_
  refine go ?_
  refine ⟨?_, by simp⟩ <;> intros
  exact ret1 ⟨rfl, rfl⟩ (hh := .drop (.take .here (ent_app _ _)))
theorem all_chr (l : List (Chr × PA)) (A : Option Addr) (c : Nat) (hl : l.length ≤ 1000000) (P : HProp) (hP : Reads P (Ec) A l) (fn : Nat) [hc : Callable Tryz.prog fn] (cap : List Value) (Qs r : List HProp) (hf : Find Qs P r) (p : Chr × PA → Bool)
    (hF : ∀ x ∈ l, Trip Tryz.prog fn ([.agg (chrC x.1 x.2).toArray] ++ cap) Qs (fun v Ps => v = .bool (p x) ∧ Ps = Qs)) :
    Trip Tryz.prog 136 [.slice A l.length c, .func (.func fn) #[] cap.toArray] Qs (fun v Ps => v = .bool (l.all p) ∧ Ps = Qs) := by
  refine Trip.of (m := 9) Tryz.func136 rfl rfl rfl ?_
  intro o Rs
  simp only [List.cons_append, List.nil_append, enumFrom]
  refine go ?_
  refine ⟨?_, by simp⟩ <;> intros
  rename_i b
  have F1 := ct_chr l A c hl P hP 193 [.pointer (some ⟨b, 0, none⟩)] (blk b 157 [.func (.func fn) #[] cap.toArray] :: Qs) (blk b 157 [.func (.func fn) #[] cap.toArray] :: r) (.there hf) (fun x => !p x) (fun x hx => all1_chr x fn cap Qs p b (hF x hx))
  refine W.callp rfl (ent_app (_ :: Qs) Rs) rfl .nil F1 ?_
  rintro _ rfl
  refine go ?_
  refine ⟨?_, by simp⟩ <;> intros
  exact ret1 ⟨by rw [← all_any], rfl⟩ (hh := .drop (ent_app Qs Rs))
theorem all1_hse (x : Hse × PA) (fn : Nat) [hc : Callable Tryz.prog fn] (cap : List Value) (Qs : List HProp) (p : Hse × PA → Bool) (b : Nat) (h : Trip Tryz.prog fn ([.agg (hseC x.1 x.2).toArray] ++ cap) Qs (fun v Ps => v = .bool (p x) ∧ Ps = Qs)) :
    Trip Tryz.prog 203 ([.agg (hseC x.1 x.2).toArray] ++ [.pointer (some ⟨b, 0, none⟩)]) (blk b 182 [.func (.func fn) #[] cap.toArray] :: Qs) (fun v Ps => v = .bool (!p x) ∧ Ps = blk b 182 [.func (.func fn) #[] cap.toArray] :: Qs) := by
  refine Trip.of (m := 8) Tryz.func203 rfl rfl rfl ?_
  intro o Rs
  simp only [List.cons_append, List.nil_append, enumFrom]
  refine go ?_
  refine ⟨?_, by simp⟩ <;> intros
  refine W.lift (lift_in2 _ _ Qs Rs) ?_
  refine W.callv rfl rfl rfl (ent_app Qs _) rfl .nil h ?_
  rintro _ Ps ⟨rfl, e⟩
  rw [e]
  refine W.lift (lift_out2 _ _ Qs Rs) ?_
  refine go ?_
  refine ⟨?_, by simp⟩ <;> intros
  exact ret1 ⟨rfl, rfl⟩ (hh := .drop (.take .here (ent_app _ _)))
theorem all_hse (l : List (Hse × PA)) (A : Option Addr) (c : Nat) (hl : l.length ≤ 1000000) (P : HProp) (hP : Reads P (Eh) A l) (fn : Nat) [hc : Callable Tryz.prog fn] (cap : List Value) (Qs r : List HProp) (hf : Find Qs P r) (p : Hse × PA → Bool)
    (hF : ∀ x ∈ l, Trip Tryz.prog fn ([.agg (hseC x.1 x.2).toArray] ++ cap) Qs (fun v Ps => v = .bool (p x) ∧ Ps = Qs)) :
    Trip Tryz.prog 139 [.slice A l.length c, .func (.func fn) #[] cap.toArray] Qs (fun v Ps => v = .bool (l.all p) ∧ Ps = Qs) := by
  refine Trip.of (m := 9) Tryz.func139 rfl rfl rfl ?_
  intro o Rs
  simp only [List.cons_append, List.nil_append, enumFrom]
  refine go ?_
  refine ⟨?_, by simp⟩ <;> intros
  rename_i b
  have F1 := ct_hse l A c hl P hP 203 [.pointer (some ⟨b, 0, none⟩)] (blk b 182 [.func (.func fn) #[] cap.toArray] :: Qs) (blk b 182 [.func (.func fn) #[] cap.toArray] :: r) (.there hf) (fun x => !p x) (fun x hx => all1_hse x fn cap Qs p b (hF x hx))
  refine W.callp rfl (ent_app (_ :: Qs) Rs) rfl .nil F1 ?_
  rintro _ rfl
  refine go ?_
  refine ⟨?_, by simp⟩ <;> intros
  exact ret1 ⟨by rw [← all_any], rfl⟩ (hh := .drop (ent_app Qs Rs))
end Go.Proofs.YtflmbhkjhfmeoaaGreat
