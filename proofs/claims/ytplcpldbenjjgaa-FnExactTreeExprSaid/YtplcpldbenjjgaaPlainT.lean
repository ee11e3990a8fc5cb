/-
  Trees in plain words: their nodes from the front, how a list of nodes is read. Nothing of the program.
-/
import Derived.Test.YtplcpldbenjjgaaBase
namespace Go.Proofs.Ytplcpldbenjjgaa
open Go.RowKit

/-- where m terms in a row end, from the place k on; -1 if they do not -/
def endG {α : Type} (f : α → Nat) : Nat → Nat → List α → Int
  | 0, k, _ => k
  | _ + 1, _, [] => -1
  | m + 1, k, x :: l => endG f (m + f x) (k + 1) l

inductive Tr where
  | nil : Tr
  | node : Tr → Tr → Tr

def flat : Tr → List Bool
  | .nil => [false]
  | .node a b => true :: (flat a ++ flat b)
def szT (t : Tr) : Nat := (flat t).length
theorem szT_nil : szT .nil = 1 := rfl
theorem szT_node (a b : Tr) : szT (.node a b) = 1 + szT a + szT b := by simp [szT, flat]; omega
theorem szT_pos (t : Tr) : 1 ≤ szT t := by cases t with | nil => exact Nat.le_refl _ | node a b => rw [szT_node]; omega

def fB (b : Bool) : Nat := if b then 2 else 0
def hdT : Tr → Tr
  | .nil => .nil
  | .node a _ => a
def tlT : Tr → Tr
  | .nil => .nil
  | .node _ b => b
theorem szT_hd (t : Tr) : szT (hdT t) ≤ szT t := by cases t with | nil => exact Nat.le_refl _ | node a b => rw [szT_node, hdT]; omega
theorem szT_tl (t : Tr) : szT (tlT t) ≤ szT t := by cases t with | nil => exact Nat.le_refl _ | node a b => rw [szT_node, tlT]; omega

theorem endG_flat : ∀ (t : Tr) (m k : Nat) (rest : List Bool), endG fB (m + 1) k (flat t ++ rest) = endG fB m (k + szT t) rest
  | .nil, m, k, rest => rfl
  | .node a b, m, k, rest => by
    rw [flat, List.cons_append, endG]
    show endG fB (m + 1 + 1) (k + 1) _ = _
    rw [List.append_assoc, endG_flat a, endG_flat b, szT_node]
    congr 1; omega
theorem endG_split : ∀ (n : Nat) (l : List Bool) (m k : Nat), l.length ≤ n → 0 ≤ endG fB m k l → ∃ ts : List Tr, ts.length = m ∧ ∃ rest, l = ts.flatMap flat ++ rest ∧ endG fB m k l = ((k + (ts.flatMap flat).length : Nat) : Int)
  | n, l, 0, k, _, _ => ⟨[], rfl, l, rfl, by cases l <;> rfl⟩
  | n, [], m + 1, k, _, h => by simp [endG] at h
  | 0, x :: l, m + 1, k, hn, h => by simp at hn
  | n + 1, x :: l, m + 1, k, hn, h => by
    rw [endG] at h
    cases x with
    | false =>
      obtain ⟨ts, h1, rest, h2, h3⟩ := endG_split n l m (k + 1) (by simp at hn; omega) h
      refine ⟨.nil :: ts, by simp [h1], rest, by rw [h2]; rfl, ?_⟩
      rw [endG]
      show endG fB m (k + 1) l = _
      rw [h3]
      congr 1
      simp [List.flatMap_cons, flat]; omega
    | true =>
      obtain ⟨ts, h1, rest, h2, h3⟩ := endG_split n l (m + 2) (k + 1) (by simp at hn; omega) h
      match ts, h1, h2, h3 with
      | a :: b :: ts, h1, h2, h3 =>
        refine ⟨.node a b :: ts, by simp at h1; simp; omega, rest, ?_, ?_⟩
        · rw [h2]; simp [List.flatMap_cons, flat]
        · rw [endG]
          show endG fB (m + 2) (k + 1) l = _
          rw [h3]
          congr 1
          simp [List.flatMap_cons, flat]; omega

/-- is a list of nodes a tree, and not too large -/
def treeB (xs : List Bool) : Bool := decide (xs.length ≤ 2000) && (endG fB 1 0 xs == (xs.length : Int))
theorem treeB_of {xs : List Bool} (h : treeB xs = true) : ∃ t, xs = flat t ∧ szT t ≤ 2000 := by
  simp only [treeB, Bool.and_eq_true, decide_eq_true_eq, beq_iff_eq] at h
  obtain ⟨ts, h1, rest, h2, h3⟩ := endG_split _ xs 1 0 (Nat.le_refl _) (by rw [h.2]; omega)
  match ts, h1 with
  | [t], _ =>
    have e : ([t].flatMap flat) = flat t := by simp
    rw [e] at h2 h3
    have : rest = [] := by
      rw [h.2, h2] at h3
      simp at h3
      apply List.eq_nil_of_length_eq_zero
      omega
    rw [this, List.append_nil] at h2
    exact ⟨t, h2, by unfold szT; rw [← h2]; exact h.1⟩
theorem treeB_flat {t : Tr} (h : szT t ≤ 2000) : treeB (flat t) = true := by
  have e := endG_flat t 0 0 []
  rw [List.append_nil] at e
  have e2 : endG fB 1 0 (flat t) = ((flat t).length : Int) := by rw [e]; simp [endG, szT]
  unfold treeB
  rw [e2]
  unfold szT at h
  simp [h]

/-- reading a tree -/
def parse : Nat → List Bool → Tr × List Bool
  | 0, l => (.nil, l)
  | _ + 1, [] => (.nil, [])
  | _ + 1, false :: l => (.nil, l)
  | f + 1, true :: l => (.node (parse f l).1 (parse f (parse f l).2).1, (parse f (parse f l).2).2)
theorem parse_flat : ∀ (t : Tr) (f : Nat) (rest : List Bool), szT t ≤ f → parse f (flat t ++ rest) = (t, rest)
  | .nil, 0, rest, h => by simp [szT_nil] at h
  | .nil, f + 1, rest, _ => rfl
  | .node a b, 0, rest, h => by rw [szT_node] at h; omega
  | .node a b, f + 1, rest, h => by
    rw [szT_node] at h
    have h1 := parse_flat a f (flat b ++ rest) (by omega)
    have h2 := parse_flat b f rest (by omega)
    rw [flat, List.cons_append, parse, List.append_assoc, h1]
    simp only [h2]
def trOf (xs : List Bool) : Tr := (parse xs.length xs).1
theorem trOf_flat (t : Tr) : trOf (flat t) = t := by
  have := parse_flat t (flat t).length [] (Nat.le_refl _)
  rw [List.append_nil] at this
  rw [trOf, this]
def headR (xs : List Bool) : List Bool × Int := if treeB xs then (flat (hdT (trOf xs)), 0) else ([], 1)
def tailR (xs : List Bool) : List Bool × Int := if treeB xs then (flat (tlT (trOf xs)), 0) else ([], 1)
end Go.Proofs.Ytplcpldbenjjgaa
