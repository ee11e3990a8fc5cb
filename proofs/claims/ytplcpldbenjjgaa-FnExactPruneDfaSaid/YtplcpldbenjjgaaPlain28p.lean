/-
  Pruning an automaton, in plain words: the states in the order in which they are found, and their numbers. Nothing of the program.
-/
import Derived.Test.YtplcpldbenjjgaaBase
namespace Go.Proofs.Ytplcpldbenjjgaa
open Go.RowKit

/-- distinct numbers below m are at most m -/
theorem pigeon : ∀ (m : Nat) (l : List Int), l.Nodup → (∀ x ∈ l, 0 ≤ x ∧ x < m) → l.length ≤ m
  | 0, [], _, _ => Nat.le_refl _
  | 0, x :: l, _, h => by have := h x (by simp); omega
  | m + 1, l, hn, h => by
    by_cases hm : (m : Int) ∈ l
    · have h1 := List.length_erase_of_mem hm
      have h2 := pigeon m (l.erase m) (hn.erase _) (fun x hx => by
        have hx' := (hn.mem_erase_iff).1 hx
        have := h x hx'.2
        have hne := hx'.1
        omega)
      omega
    · have := pigeon m l hn (fun x hx => by
        have h1 := h x hx
        have : x ≠ m := fun e => hm (e ▸ hx)
        omega)
      omega

/-- the place of a number in a list -/
def placeOf (x : Int) : List Int → Nat
  | [] => 0
  | y :: l => if y = x then 0 else placeOf x l + 1
theorem placeOf_at {x : Int} : ∀ {l : List Int} {k : Nat}, l.Nodup → l[k]? = some x → placeOf x l = k
  | [], k, _, h => by simp at h
  | y :: l, 0, _, h => by simp at h; simp [placeOf, h]
  | y :: l, k + 1, hn, h => by
    have hl : l[k]? = some x := by simpa using h
    have hne : y ≠ x := fun e => (List.nodup_cons.1 hn).1 (e ▸ List.mem_of_getElem? hl)
    rw [placeOf, if_neg hne, placeOf_at (List.nodup_cons.1 hn).2 hl]
theorem placeOf_get {x : Int} : ∀ {l : List Int}, x ∈ l → l[placeOf x l]? = some x
  | [], h => by cases h
  | y :: l, h => by
    by_cases hy : y = x
    · simp [placeOf, hy]
    · rw [placeOf, if_neg hy]
      rcases List.mem_cons.1 h with e | h
      · exact absurd e.symm hy
      · simpa using placeOf_get h
theorem placeOf_lt {x : Int} {l : List Int} (h : x ∈ l) : placeOf x l < l.length := (List.getElem?_eq_some_iff.1 (placeOf_get h)).1

/-- one arrow -/
def pOrd (to : Int) (order : List Int) : List Int := if to ∈ order then order else order ++ [to]
def pNum (to : Int) (order : List Int) : Int := if to ∈ order then (placeOf to order : Int) else order.length
theorem pOrd_in {to : Int} {order : List Int} (h : to ∈ order) : pOrd to order = order := if_pos h
theorem pOrd_new {to : Int} {order : List Int} (h : to ∉ order) : pOrd to order = order ++ [to] := if_neg h
theorem pNum_in {to : Int} {order : List Int} (h : to ∈ order) : pNum to order = placeOf to order := if_pos h
theorem pNum_new {to : Int} {order : List Int} (h : to ∉ order) : pNum to order = order.length := if_neg h
/-- the states found, and the numbers written; nx q s: where the state q goes at the symbol s -/
def pgo (nx : Int → Nat → Int) (sym : Nat) : Nat → Nat → Nat → List Int → List Int → List Int × List Int
  | 0, _, _, order, out => (order, out)
  | f + 1, i, s, order, out =>
    if i < order.length then
      if s < sym then pgo nx sym f i (s + 1) (pOrd (nx (order.getD i 0) s) order) (out ++ [pNum (nx (order.getD i 0) s) order])
      else pgo nx sym f (i + 1) 0 order out
    else (order, out)
theorem pgo_arrow {nx : Int → Nat → Int} {sym f i s : Nat} {order out : List Int} (h1 : i < order.length) (h2 : s < sym) :
    pgo nx sym (f + 1) i s order out = pgo nx sym f i (s + 1) (pOrd (nx (order.getD i 0) s) order) (out ++ [pNum (nx (order.getD i 0) s) order]) := by rw [pgo, if_pos h1, if_pos h2]
theorem pgo_next {nx : Int → Nat → Int} {sym f i s : Nat} {order out : List Int} (h1 : i < order.length) (h2 : ¬ s < sym) : pgo nx sym (f + 1) i s order out = pgo nx sym f (i + 1) 0 order out := by rw [pgo, if_pos h1, if_neg h2]
theorem pgo_end {nx : Int → Nat → Int} {sym f i s : Nat} {order out : List Int} (h1 : ¬ i < order.length) : pgo nx sym (f + 1) i s order out = (order, out) := by rw [pgo, if_neg h1]
/-- what holds of the states found -/
structure POk (st : Nat) (order : List Int) : Prop where
  nodup : order.Nodup
  range : ∀ x ∈ order, 0 ≤ x ∧ x < st
theorem POk.len {st : Nat} {order : List Int} (h : POk st order) : order.length ≤ st := pigeon st order h.nodup h.range
theorem POk.start {st : Nat} (h : 1 ≤ st) : POk st [0] := ⟨by simp, by simp; omega⟩
theorem POk.step {st : Nat} {order : List Int} {to : Int} (h : POk st order) (h0 : 0 ≤ to) (h1 : to < st) : POk st (pOrd to order) := by
  by_cases hin : to ∈ order
  · rw [pOrd_in hin]; exact h
  · rw [pOrd_new hin]
    refine ⟨?_, fun x hx => ?_⟩
    · rw [List.nodup_append]
      exact ⟨h.nodup, by simp, fun a ha b hb e => by rw [List.mem_singleton] at hb; exact hin (hb ▸ e ▸ ha)⟩
    · rcases List.mem_append.1 hx with hx | hx
      · exact h.range x hx
      · rw [List.mem_singleton] at hx; subst hx; exact ⟨h0, h1⟩
theorem pOrd_get {order : List Int} {to : Int} {i : Nat} (h : i < order.length) : (pOrd to order).getD i 0 = order.getD i 0 ∧ order.length ≤ (pOrd to order).length := by
  by_cases hin : to ∈ order
  · rw [pOrd_in hin]; exact ⟨rfl, Nat.le_refl _⟩
  · rw [pOrd_new hin]
    refine ⟨?_, by simp⟩
    rw [List.getD_eq_getElem?_getD, List.getD_eq_getElem?_getD, List.getElem?_append_left h]
end Go.Proofs.Ytplcpldbenjjgaa
