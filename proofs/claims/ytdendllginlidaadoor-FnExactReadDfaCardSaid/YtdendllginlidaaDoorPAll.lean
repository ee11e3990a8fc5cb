/-
  All numbers of a list of texts, in plain Lean. Nothing of the program.
-/
import Derived.Test.YtdendllginlidaaDoorPNum
import Derived.Test.YtdendllginlidaaDoorPSpl
namespace Go.Proofs.YtdendllginlidaaDoor

/-- all numbers of a list of texts -/
def allD : List (List UInt8) → Option (List Int)
  | [] => some []
  | x :: l => match numD x with
    | none => none
    | some n => (allD l).map (n :: ·)
theorem allD_none {x : List UInt8} {l : List (List UInt8)} (h : numD x = none) : allD (x :: l) = none := by rw [allD, h]
theorem allD_some {x : List UInt8} {l : List (List UInt8)} {n : Int} (h : numD x = some n) : allD (x :: l) = (allD l).map (n :: ·) := by rw [allD, h]
theorem allD_app : ∀ (a b : List (List UInt8)), allD (a ++ b) = (allD a).bind fun x => (allD b).map (x ++ ·)
  | [], b => by rw [List.nil_append, allD, Option.bind_some]; cases allD b <;> rfl
  | x :: a, b => by
    rw [List.cons_append, allD, allD]
    cases numD x with
    | none => rfl
    | some n =>
      simp only
      rw [allD_app a b]
      cases allD a with
      | none => rfl
      | some u => cases allD b <;> rfl
theorem allD_len : ∀ {l : List (List UInt8)} {xs : List Int}, allD l = some xs → xs.length = l.length
  | [], xs, h => by rw [allD] at h; injection h with h; rw [← h]; rfl
  | x :: l, xs, h => by
    cases hn : numD x with
    | none => rw [allD_none hn] at h; cases h
    | some n =>
      rw [allD_some hn] at h
      obtain ⟨ys, h1, rfl⟩ := Option.map_eq_some_iff.1 h
      rw [List.length_cons, List.length_cons, allD_len h1]
theorem allD_texts : ∀ {l : List (List UInt8)} {xs : List Int}, allD l = some xs → xs.map Lib.itoa = l
  | [], xs, h => by rw [allD] at h; injection h with h; rw [← h]; rfl
  | x :: l, xs, h => by
    cases hn : numD x with
    | none => rw [allD_none hn] at h; cases h
    | some n =>
      rw [allD_some hn] at h
      obtain ⟨ys, h1, rfl⟩ := Option.map_eq_some_iff.1 h
      rw [List.map_cons, (numD_some hn).1, allD_texts h1]
theorem allD_itoa : ∀ {xs : List Int}, (∀ x ∈ xs, -1000000000000000000 < x ∧ x < 1000000000000000000) → allD (xs.map Lib.itoa) = some xs
  | [], _ => rfl
  | x :: xs, h => by rw [List.map_cons, allD_some (numD_text (h x (by simp))), allD_itoa fun y hy => h y (List.mem_cons_of_mem _ hy)]; rfl
end Go.Proofs.YtdendllginlidaaDoor
