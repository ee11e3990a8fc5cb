/-
  Plain Lean: the closure's list has no abstraction twice; put into lexicographic order it is the list in the order of its numbers.
-/
import Derived.Test.YtmmgejnhfpfmnaaP28n
import Derived.Test.YtmmgejnhfpfmnaaCmpP
namespace Go.Proofs.Ytmmgejnhfpfmnaa
open Go.Sort

theorem addN_nodup {l : List Nd} (y : Nd) (h : l.Nodup) : (addN l y).Nodup := by
  unfold addN
  split
  · exact h
  · rename_i hn
    refine List.nodup_append.2 ⟨h, by simp, fun a ha b hb => ?_⟩
    rw [List.mem_singleton] at hb; subst hb
    exact fun e => hn (e ▸ ha)
theorem fold_nodup (ys : List Nd) : ∀ {l : List Nd}, l.Nodup → (ys.foldl addN l).Nodup := by
  induction ys with
  | nil => exact fun h => h
  | cons z ys ih => exact fun h => ih (addN_nodup z h)
theorem clGo_nodup {rs : List Rule3} {sy : Int} {xl xr : List Int} : ∀ (f k : Nat) (l l' : List Nd), clGo rs sy xl xr f k l = some l' → l.Nodup → l'.Nodup
  | 0, _, _, _, h, _ => by simp [clGo] at h
  | f + 1, k, l, l', h, hl => by
    rw [clGo] at h
    split at h
    · injection h with h; subst h; exact hl
    · rename_i x hx
      by_cases hf : 3000 < ((stepsN rs sy xl xr x).foldl addN l).length
      · rw [if_pos hf] at h; cases h
      · rw [if_neg hf] at h; exact clGo_nodup f (k + 1) _ l' h (fold_nodup _ hl)
theorem clR_nodup {rs : List Rule3} {sy : Int} {xl xr : List Int} {l : List Nd} (h : clR rs sy xl xr = some l) : l.Nodup := clGo_nodup _ _ _ _ h (by simp)

theorem lt_key {a a' b b' n : Int} (hb : 0 ≤ b ∧ b < n) (hb' : 0 ≤ b' ∧ b' < n) (h : a < a') : a * n + b < a' * n + b' := by
  have h1 : (a + 1) * n ≤ a' * n := Int.mul_le_mul_of_nonneg_right (by omega) (by omega)
  rw [Int.add_mul] at h1; omega
theorem key_lex {sl st sy sr : Int} {y z : Nd} (hy : NdOk sl st sy sr y) (hz : NdOk sl st sy sr z) (h : keyN st sy sr y < keyN st sy sr z) : cmpL (ndL y) (ndL z) < 0 := by
  obtain ⟨a, b, c, d⟩ := y
  obtain ⟨a', b', c', d'⟩ := z
  have b1 := hy.b; have c1 := hy.c; have d1 := hy.d; have b2 := hz.b; have c2 := hz.c; have d2 := hz.d
  simp only [keyN, ndL, cmpL] at *
  rcases cmpI a a' with ⟨g, e⟩ | ⟨rfl, e⟩ | ⟨g, e⟩ <;> rw [e]
  · simp
  rotate_left
  · exfalso
    have := lt_key d2 d1 (lt_key c2 c1 (lt_key b2 b1 g)); omega
  rw [if_pos rfl]
  rcases cmpI b b' with ⟨g, e⟩ | ⟨rfl, e⟩ | ⟨g, e⟩ <;> rw [e]
  · simp
  rotate_left
  · exfalso
    have := lt_key d2 d1 (lt_key c2 c1 (show a * st + b' < a * st + b by omega)); omega
  rw [if_pos rfl]
  rcases cmpI c c' with ⟨g, e⟩ | ⟨rfl, e⟩ | ⟨g, e⟩ <;> rw [e]
  · simp
  rotate_left
  · exfalso
    have := lt_key d2 d1 (show (a * st + b) * sy + c' < (a * st + b) * sy + c by omega); omega
  rw [if_pos rfl]
  rcases cmpI d d' with ⟨g, e⟩ | ⟨rfl, e⟩ | ⟨g, e⟩ <;> rw [e]
  · simp
  · omega
  · omega
theorem sortN_sorted {sl st sy sr : Int} {l : List Nd} {K : Nat} (hK : (K : Int) = sl * st * sy * sr) (hl : ∀ z ∈ l, NdOk sl st sy sr z) : ((sortN st sy sr l K).map ndL).Pairwise fun x y => cmpL x y < 0 := by
  have hok : ∀ y ∈ sortN st sy sr l K, NdOk sl st sy sr y := fun y hy => hl y ((sortN_mem hK hl y).1 hy)
  rw [List.pairwise_map]
  unfold sortN at hok ⊢
  rw [List.pairwise_map]
  have hp : ((List.range K).filter fun j : Nat => decide ((j : Int) ∈ l.map (keyN st sy sr))).Pairwise (fun a b => a < b) := List.Pairwise.filter _ List.pairwise_lt_range
  refine List.Pairwise.imp_of_mem (fun {a b} ha hb hab => ?_) hp
  refine key_lex (hok _ (List.mem_map_of_mem ha)) (hok _ (List.mem_map_of_mem hb)) ?_
  rw [keyN_dec, keyN_dec]; omega
/-- the order of the sort -/
abbrev leL (x y : List Int) : Bool := !(ltOf cmpL) y x
theorem leL_trans (a b c : List Int) (h : leL a b = true) (h' : leL b c = true) : leL a c = true := by
  simp only [leL, Bool.not_eq_true'] at *
  exact swoL.ntrans c b a h' h
theorem leL_total (a b : List Int) : (leL a b || leL b a) = true := by
  simp only [leL, ltOf, Bool.or_eq_true, Bool.not_eq_true', decide_eq_false_iff_not]
  have := cmpL_anti a b; omega
theorem sort_keys {sl st sy sr : Int} {l : List Nd} {K : Nat} (hK : (K : Int) = sl * st * sy * sr) (hl : ∀ z ∈ l, NdOk sl st sy sr z) (hn : l.Nodup) : (l.map ndL).mergeSort leL = (sortN st sy sr l K).map ndL := by
  have hs := sortN_sorted hK hl
  have hS : ((sortN st sy sr l K).map ndL).Nodup := hs.imp fun {a b} h e => by rw [e, cmpL_refl] at h; omega
  refine List.Perm.eq_of_pairwise (le := fun x y => leL x y = true) (fun a b _ _ h1 h2 => ?_) (List.pairwise_mergeSort leL_trans leL_total _) (hs.imp fun {a b} h => ?_) ?_
  · exact totalL a b (by simpa [leL] using h2) (by simpa [leL] using h1)
  · simp only [leL, ltOf, Bool.not_eq_true', decide_eq_false_iff_not]
    have := cmpL_anti a b; omega
  · refine (List.mergeSort_perm _ _).trans ((List.perm_ext_iff_of_nodup ?_ hS).2 fun a => ?_)
    · exact (List.pairwise_map.2 (hn.imp fun {a b} h e => h (ndL_inj e)))
    · rw [List.mem_map, List.mem_map]
      exact ⟨fun ⟨y, hy, e⟩ => ⟨y, (sortN_mem hK hl y).2 hy, e⟩, fun ⟨y, hy, e⟩ => ⟨y, (sortN_mem hK hl y).1 hy, e⟩⟩
end Go.Proofs.Ytmmgejnhfpfmnaa
