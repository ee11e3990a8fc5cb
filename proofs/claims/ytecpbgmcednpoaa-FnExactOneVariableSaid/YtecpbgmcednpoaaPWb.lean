/-
  The variables of while programs, in plain Lean: sorted, each once.
-/
import Derived.Test.YtecpbgmcednpoaaPW
import Derived.Test.YtecpbgmcednpoaaP18c
import Derived.Test.YtecpbgmcednpoaaSortI
namespace Go.Proofs.Ytecpbgmcednpoaa
open Go.RowKit

theorem vcL_all : ∀ (N : Nat) (l : List Cmd), l.length ≤ N → vcL l = true → ∀ c ∈ l, validE c.2.2.2 = true ∧ (c.1 = 0 ∨ c.1 = 1) ∧ inB c.2.1 0 5 = true
  | _, [], _, _, c, hc => by cases hc
  | 0, x :: l, hN, _, c, hc => by simp at hN
  | N + 1, (k, v, n, x) :: l, hN, h, c, hc => by
    rw [vcL_cons] at h
    simp only [List.length_cons] at hN
    simp only [Bool.and_eq_true] at h
    obtain ⟨h1, h2⟩ := h
    by_cases hk : k = 0
    · rw [if_pos hk] at h2
      simp only [Bool.and_eq_true] at h2
      rcases List.mem_cons.1 hc with rfl | hc
      · exact ⟨h1, .inl hk, h2.1.1⟩
      · exact vcL_all N l (by omega) h2.2 c hc
    · rw [if_neg hk] at h2
      by_cases hk1 : k = 1
      · rw [if_pos hk1] at h2
        simp only [Bool.and_eq_true] at h2
        rcases List.mem_cons.1 hc with rfl | hc
        · have hv : v = 0 := by simpa using h2.1.1.1
          refine ⟨h1, .inr hk1, ?_⟩
          show inB v 0 5 = true
          rw [hv]; rfl
        · rw [← List.take_append_drop n.toNat l] at hc
          rcases List.mem_append.1 hc with hc | hc
          · exact vcL_all N _ (by rw [List.length_take]; omega) h2.1.2 c hc
          · exact vcL_all N _ (by rw [List.length_drop]; omega) h2.2 c hc
      · rw [if_neg hk1] at h2; cases h2
theorem validW_all {p : List Cmd} (h : validW p = true) : p.length ≤ 80 ∧ ∀ c ∈ p, validE c.2.2.2 = true ∧ (c.1 = 0 ∨ c.1 = 1) ∧ inB c.2.1 0 5 = true := by
  simp only [validW, Bool.and_eq_true, decide_eq_true_eq] at h
  exact ⟨h.1, vcL_all _ p (Nat.le_refl _) h.2⟩
def varsE (x : List (Int × Int)) : List Int := x.filterMap fun y => if y.1 = 1 then some y.2 else none
theorem varsE_len (x : List (Int × Int)) : (varsE x).length ≤ x.length := List.length_filterMap_le _ _
def varsW1 (c : Cmd) : List Int := (if c.1 = 0 then [c.2.1] else []) ++ varsE c.2.2.2
def varsW (p : List Cmd) : List Int := p.flatMap varsW1
def putW (vs : List Int) (acc : List Int) : List Int := vs.foldl (fun out v => putS v out) acc
theorem putW_app (a b acc : List Int) : putW (a ++ b) acc = putW b (putW a acc) := List.foldl_append ..
theorem putW_nil (acc : List Int) : putW [] acc = acc := rfl
theorem putW_cons (v : Int) (l acc : List Int) : putW (v :: l) acc = putW l (putS v acc) := rfl
theorem putW_len : ∀ (vs acc : List Int), (putW vs acc).length ≤ acc.length + vs.length
  | [], acc => Nat.le_refl _
  | v :: vs, acc => by
    have h1 := putW_len vs (putS v acc)
    have h2 := putS_len (v := v) (l := acc)
    rw [putW_cons]; simp; omega
/-! ### two lists that rise and hold the same numbers are one list -/
def rises (l : List Int) : Prop := l.Pairwise (· < ·)
theorem rises_eq : ∀ {a b : List Int}, rises a → rises b → (∀ y, y ∈ a ↔ y ∈ b) → a = b
  | [], [], _, _, _ => rfl
  | [], y :: b, _, _, h => by have := (h y).2 (by simp); cases this
  | x :: a, [], _, _, h => by have := (h x).1 (by simp); cases this
  | x :: a, y :: b, ha, hb, h => by
    obtain ⟨ha1, ha2⟩ := List.pairwise_cons.1 ha
    obtain ⟨hb1, hb2⟩ := List.pairwise_cons.1 hb
    have hxy : x = y := by
      have h1 := (h x).1 (by simp)
      have h2 := (h y).2 (by simp)
      rcases List.mem_cons.1 h1 with h1 | h1
      · exact h1
      · rcases List.mem_cons.1 h2 with h2 | h2
        · exact h2.symm
        · have := hb1 x h1; have := ha1 y h2; omega
    subst hxy
    congr 1
    refine rises_eq ha2 hb2 fun z => ⟨fun hz => ?_, fun hz => ?_⟩
    · rcases List.mem_cons.1 ((h z).1 (by simp [hz])) with e | e
      · have := ha1 z hz; omega
      · exact e
    · rcases List.mem_cons.1 ((h z).2 (by simp [hz])) with e | e
      · have := hb1 z hz; omega
      · exact e
theorem putS_rises {v : Int} : ∀ {l : List Int}, rises l → rises (putS v l)
  | [], _ => List.pairwise_singleton _ _
  | x :: l, h => by
    obtain ⟨h1, h2⟩ := List.pairwise_cons.1 h
    rw [putS]
    split
    · rename_i hle
      split
      · exact h
      · rename_i hne
        refine List.pairwise_cons.2 ⟨fun y hy => ?_, h⟩
        rcases List.mem_cons.1 hy with rfl | hy
        · omega
        · have := h1 y hy; omega
    · rename_i hle
      refine List.pairwise_cons.2 ⟨fun y hy => ?_, putS_rises h2⟩
      rcases putS_mem.1 hy with rfl | hy
      · omega
      · exact h1 y hy
theorem putW_rises : ∀ (vs : List Int) {acc : List Int}, rises acc → rises (putW vs acc)
  | [], _, h => h
  | _ :: vs, _, h => putW_rises vs (putS_rises h)
theorem sortL_rise (xs : List Int) : (sortL xs).Pairwise (· ≤ ·) := by
  have := List.pairwise_mergeSort (le := fun (x y : Int) => decide (x ≤ y)) (fun a b c => by simp; omega) (fun a b => by simp; omega) xs
  simpa [sortL] using this
theorem compact_rises {zs : List Int} (h : zs.Pairwise (· ≤ ·)) : rises (Lib.compact zs) := by
  unfold rises Lib.compact Lib.compactUpTo
  rw [List.pairwise_map]
  have hr : ((List.range zs.length).filter (Lib.keeps zs.toArray)).Pairwise (· < ·) := List.Pairwise.filter _ List.pairwise_lt_range
  have hall : ∀ j ∈ (List.range zs.length).filter (Lib.keeps zs.toArray), j < zs.length ∧ Lib.keeps zs.toArray j = true := fun j hj => by
    obtain ⟨h1, h2⟩ := List.mem_filter.1 hj
    exact ⟨by simpa using h1, h2⟩
  have hrr := List.pairwise_iff_getElem.1 hr
  refine List.pairwise_iff_getElem.2 fun i j hi hj hij => ?_
  have hlt := hrr i j hi hj hij
  obtain ⟨ha, _⟩ := hall _ (List.getElem_mem hi)
  obtain ⟨hb, hkb⟩ := hall _ (List.getElem_mem hj)
  revert hlt ha hb hkb
  generalize ((List.range zs.length).filter (Lib.keeps zs.toArray))[i] = a
  generalize ((List.range zs.length).filter (Lib.keeps zs.toArray))[j] = b
  intro hlt ha hb hkb
  have hle := List.pairwise_iff_getElem.1 h
  have e1 : zs.toArray[a]! = zs[a] := by simp [ha]
  have e2 : zs.toArray[b]! = zs[b] := by simp [hb]
  have e3 : zs.toArray[b - 1]! = zs[b - 1]'(by omega) := by simp [show b - 1 < zs.length by omega]
  have hne : zs[b] ≠ zs[b - 1]'(by omega) := by
    simp only [Lib.keeps, decide_eq_true_eq] at hkb
    rcases hkb with hkb | hkb
    · omega
    · rw [e2, e3] at hkb; exact hkb
  have h1 : zs[b - 1]'(by omega) ≤ zs[b] := hle (b - 1) b (by omega) hb (by omega)
  have h2 : zs[a] ≤ zs[b - 1]'(by omega) := by
    rcases Nat.lt_or_ge a (b - 1) with h3 | h3
    · exact hle a (b - 1) ha (by omega) h3
    · have : a = b - 1 := by omega
      subst this; omega
  rw [e1, e2]; omega
theorem normV_putW (vs : List Int) : normV vs = putW vs [] := by
  refine rises_eq (compact_rises (sortL_rise vs)) (putW_rises vs List.Pairwise.nil) fun y => ?_
  have h1 := normV_mem (xs := vs) (y := y)
  have h2 := foldPut_mem (y := y) vs []
  exact h1.trans (by rw [putW, h2]; simp)
def wvR (p : List Cmd) : List Int × Int := if validW p = true then (normV (varsW p), 0) else ([], 1)
end Go.Proofs.Ytecpbgmcednpoaa
