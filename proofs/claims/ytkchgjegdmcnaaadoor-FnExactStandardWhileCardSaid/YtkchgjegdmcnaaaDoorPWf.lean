/-
  Folding the values of while programs, in plain Lean. Nothing of the program.
-/
import Derived.Test.YtkchgjegdmcnaaaDoorPW
namespace Go.Proofs.YtkchgjegdmcnaaaDoor
open Go.RowKit

/-- a list that is one expression -/
def isE (e : List (Int × Int)) : Prop := endP manyE e 1 = some e.length
/-- where a list's first expression ends -/
def endM (l : List (Int × Int)) : Nat := (endP manyE l 1).getD 0
theorem endP_pre {f : Int → Nat} : ∀ {l m : List (Int × Int)} {n p : Nat}, endP f l n = some p → endP f (l ++ m) n = some p
  | l, m, 0, p, h => by rw [endP_zero] at h ⊢; exact h
  | [], m, n + 1, p, h => by cases h
  | x :: l, m, n + 1, p, h => by
    rw [endP_cons] at h
    obtain ⟨q, hq, rfl⟩ := Option.map_eq_some_iff.1 h
    rw [List.cons_append, endP_cons, endP_pre hq]; rfl
theorem isE_pos {e : List (Int × Int)} (h : isE e) : 1 ≤ e.length := endP_pos h
theorem isE_ne {e : List (Int × Int)} (h : isE e) : ∃ x l, e = x :: l := by
  cases e with
  | nil => cases h
  | cons x l => exact ⟨x, l, rfl⟩
theorem isE_cons {x : Int × Int} {l : List (Int × Int)} : isE (x :: l) ↔ endP manyE l (manyE x.1) = some l.length := by
  unfold isE
  rw [endP_cons, Nat.zero_add, List.length_cons]
  cases endP manyE l (manyE x.1) <;> simp
theorem isE_leaf {x : Int × Int} {l : List (Int × Int)} (h : isE (x :: l)) (hx : manyE x.1 = 0) : l = [] := by
  rw [isE_cons, hx, endP_zero] at h
  injection h with h
  exact List.length_eq_zero_iff.1 h.symm
theorem isE_un {x : Int × Int} {l : List (Int × Int)} (hx : manyE x.1 = 1) : isE (x :: l) ↔ isE l := by rw [isE_cons, hx]; rfl
theorem isE_two {x : Int × Int} {l : List (Int × Int)} (h : isE (x :: l)) (hx : manyE x.1 = 2) :
    endP manyE l 1 = some (endM l) ∧ 1 ≤ endM l ∧ endM l < l.length ∧ isE (l.take (endM l)) ∧ isE (l.drop (endM l)) := by
  rw [isE_cons, hx, show (2 : Nat) = 1 + 1 from rfl] at h
  obtain ⟨p, q, h1, h2, h3⟩ := endP_add h
  have e : endM l = p := by rw [endM, h1]; rfl
  have hp := endP_pos h1
  have hq := endP_pos h2
  rw [e]
  refine ⟨h1, hp, by omega, ?_, ?_⟩
  · have := endP_take h1
    unfold isE
    rw [this, List.length_take]; congr 1; omega
  · unfold isE
    rw [h2, List.length_drop]; congr 1; omega
theorem isE_pair {x : Int × Int} {a b : List (Int × Int)} (hx : manyE x.1 = 2) (ha : isE a) (hb : isE b) : isE (x :: (a ++ b)) := by
  rw [isE_cons, hx, show (2 : Nat) = 1 + 1 from rfl, List.length_append]
  exact endP_app (endP_pre ha) (by rw [List.drop_left]; exact hb)
theorem many_un {k : Int} : manyE k = 1 ↔ k = 3 ∨ k = 4 := by
  unfold manyE
  constructor
  · intro h; split at h
    · assumption
    · split at h <;> omega
  · intro h; rw [if_pos h]
theorem many_two {k : Int} : manyE k = 2 ↔ k = 2 ∨ k = 5 := by
  unfold manyE
  constructor
  · intro h; split at h
    · omega
    · split at h
      · assumption
      · omega
  · intro h; rw [if_neg (by omega), if_pos h]
theorem many_zero {k : Int} (h1 : ¬ (k = 3 ∨ k = 4)) (h2 : ¬ (k = 2 ∨ k = 5)) : manyE k = 0 := by rw [manyE, if_neg h1, if_neg h2]

/-- the head or the tail of a folded expression -/
def pickE (x : Int × Int) (a : List (Int × Int)) : List (Int × Int) := match a with
  | [] => [x]
  | y :: b => if y.1 = 0 then a else if y.1 = 2 then (if x.1 = 3 then b.take (endM b) else b.drop (endM b)) else x :: a
def pairE (x : Int × Int) (a b : List (Int × Int)) : List (Int × Int) := if x.1 = 5 ∧ a = b then [(2, 0), (0, 0), (0, 0)] else x :: (a ++ b)
def foldK : Nat → List (Int × Int) → List (Int × Int)
  | 0, e => e
  | _ + 1, [] => []
  | N + 1, x :: l => if x.1 = 3 ∨ x.1 = 4 then pickE x (foldK N l) else if x.1 = 2 ∨ x.1 = 5 then pairE x (foldK N (l.take (endM l))) (foldK N (l.drop (endM l))) else [x]
theorem foldK_un {N : Nat} {x : Int × Int} {l : List (Int × Int)} (h : x.1 = 3 ∨ x.1 = 4) : foldK (N + 1) (x :: l) = pickE x (foldK N l) := by rw [foldK, if_pos h]
theorem foldK_two {N : Nat} {x : Int × Int} {l : List (Int × Int)} (h : x.1 = 2 ∨ x.1 = 5) : foldK (N + 1) (x :: l) = pairE x (foldK N (l.take (endM l))) (foldK N (l.drop (endM l))) := by rw [foldK, if_neg (by omega), if_pos h]
theorem foldK_leaf {N : Nat} {x : Int × Int} {l : List (Int × Int)} (h1 : ¬ (x.1 = 3 ∨ x.1 = 4)) (h2 : ¬ (x.1 = 2 ∨ x.1 = 5)) : foldK (N + 1) (x :: l) = [x] := by rw [foldK, if_neg h1, if_neg h2]
theorem pickE_ok {x : Int × Int} {a : List (Int × Int)} (hx : x.1 = 3 ∨ x.1 = 4) (ha : isE a) : isE (pickE x a) ∧ (pickE x a).length ≤ a.length + 1 := by
  obtain ⟨y, b, rfl⟩ := isE_ne ha
  rw [pickE]
  split
  · exact ⟨ha, by simp⟩
  · split
    · rename_i h2
      obtain ⟨_, h3, h4, h5, h6⟩ := isE_two ha (many_two.2 (.inl h2))
      split
      · exact ⟨h5, by simp; omega⟩
      · exact ⟨h6, by simp; omega⟩
    · exact ⟨(isE_un (many_un.2 hx)).2 ha, by simp⟩
theorem pairE_ok {x : Int × Int} {a b : List (Int × Int)} (hx : x.1 = 2 ∨ x.1 = 5) (ha : isE a) (hb : isE b) : isE (pairE x a b) ∧ (pairE x a b).length ≤ a.length + b.length + 1 := by
  have h1 := isE_pos ha; have h2 := isE_pos hb
  rw [pairE]
  split
  · exact ⟨by rfl, by simp; omega⟩
  · exact ⟨isE_pair (many_two.2 hx) ha hb, by simp⟩
theorem foldK_ok : ∀ (N : Nat) (e : List (Int × Int)), isE e → e.length ≤ N → isE (foldK N e) ∧ (foldK N e).length ≤ e.length
  | 0, e, h, hN => by have := isE_pos h; omega
  | N + 1, e, h, hN => by
    obtain ⟨x, l, rfl⟩ := isE_ne h
    rw [List.length_cons] at hN ⊢
    by_cases h1 : x.1 = 3 ∨ x.1 = 4
    · rw [foldK_un h1]
      obtain ⟨h2, h3⟩ := foldK_ok N l ((isE_un (many_un.2 h1)).1 h) (by omega)
      obtain ⟨h4, h5⟩ := pickE_ok h1 h2
      exact ⟨h4, by omega⟩
    · by_cases h2 : x.1 = 2 ∨ x.1 = 5
      · rw [foldK_two h2]
        obtain ⟨_, h3, h4, h5, h6⟩ := isE_two h (many_two.2 h2)
        have l1 : (l.take (endM l)).length = endM l := by rw [List.length_take]; omega
        have l2 : (l.drop (endM l)).length = l.length - endM l := List.length_drop
        obtain ⟨a1, a2⟩ := foldK_ok N _ h5 (by omega)
        obtain ⟨b1, b2⟩ := foldK_ok N _ h6 (by omega)
        obtain ⟨h7, h8⟩ := pairE_ok h2 a1 b1
        exact ⟨h7, by omega⟩
      · rw [foldK_leaf h1 h2]
        refine ⟨?_, by simp⟩
        rw [isE_cons, many_zero h1 h2]; rfl
def foldC (c : Cmd) : Cmd := (c.1, c.2.1, c.2.2.1, foldK 40 c.2.2.2)
def fwhR (D : List Cmd) : List Cmd × Int := if validW D = true then (D.map foldC, 0) else ([], 1)
theorem isE_valid {e : List (Int × Int)} (h : validE e = true) : isE e ∧ e.length ≤ 40 := ⟨(validE_end h).1, (validE_end h).2.2.1⟩
/-! ### the operands of an expression -/
def posE (l : List (Int × Int)) (i : Nat) : Nat := 1 + (endP manyE l i).getD 0
def opdE (l : List (Int × Int)) (i : Nat) : List (Int × Int) := (l.drop (posE l i - 1)).take (posE l (i + 1) - posE l i)
theorem posE_zero (l : List (Int × Int)) : posE l 0 = 1 := by rw [posE, endP_zero]; rfl
theorem opd_ok {x : Int × Int} {l : List (Int × Int)} (h : isE (x :: l)) {i : Nat} (hi : i < manyE x.1) :
    1 ≤ posE l i ∧ posE l i < posE l (i + 1) ∧ posE l (i + 1) ≤ l.length + 1 ∧ resE manyE (x :: l) (posE l i) 1 = posE l (i + 1) ∧ isE (opdE l i) ∧ (opdE l i).length = posE l (i + 1) - posE l i := by
  obtain ⟨r, hr⟩ : ∃ r, manyE x.1 = i + (1 + r) := ⟨manyE x.1 - i - 1, by omega⟩
  rw [isE_cons, hr] at h
  obtain ⟨p, s, h1, h2, h3⟩ := endP_add h
  obtain ⟨q, u, h4, _, h5⟩ := endP_add h2
  have h6 := endP_app h1 h4
  have h7 := endP_pos h4
  have h8 := (endP_le h4).1
  have e1 : posE l i = 1 + p := by rw [posE, h1]; rfl
  have e2 : posE l (i + 1) = 1 + p + q := by rw [posE, h6]; show 1 + (p + q) = _; omega
  have e3 : opdE l i = (l.drop p).take q := by rw [opdE, e1, e2, show 1 + p - 1 = p by omega, show 1 + p + q - (1 + p) = q by omega]
  rw [e1, e2, e3]
  rw [List.length_drop] at h8
  have l1 : ((l.drop p).take q).length = q := by rw [List.length_take, List.length_drop]; omega
  refine ⟨by omega, by omega, by omega, ?_, ?_, by rw [l1]; omega⟩
  · rw [resE_some (p := q) (by rw [Nat.add_comm 1 p, List.drop_succ_cons]; exact h4)]
  · unfold isE
    rw [endP_take h4, l1]
theorem opd_un {x : Int × Int} {l : List (Int × Int)} (h : isE (x :: l)) (hx : manyE x.1 = 1) : opdE l 0 = l := by
  have h1 : endP manyE l 1 = some l.length := (isE_un hx).1 h
  rw [opdE, posE_zero, posE, h1]
  simp
theorem opd_two {x : Int × Int} {l : List (Int × Int)} (h : isE (x :: l)) (hx : manyE x.1 = 2) : opdE l 0 = l.take (endM l) ∧ opdE l 1 = l.drop (endM l) := by
  obtain ⟨h1, h2, h3, h4, h5⟩ := isE_two h hx
  rw [isE_cons, hx] at h
  have e1 : posE l 1 = 1 + endM l := by rw [posE, h1]; rfl
  have e2 : posE l 2 = 1 + l.length := by rw [posE, h]; rfl
  constructor
  · rw [opdE, posE_zero, e1]; simp
  · rw [opdE, e1, e2, show 1 + endM l - 1 = endM l by omega]
    exact List.take_of_length_le (by rw [List.length_drop]; omega)
end Go.Proofs.YtkchgjegdmcnaaaDoor
