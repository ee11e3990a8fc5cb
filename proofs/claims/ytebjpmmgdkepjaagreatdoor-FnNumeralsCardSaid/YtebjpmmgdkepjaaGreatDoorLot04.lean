/-
  Parts of the proof, one behind the other: contracts of the functions that the law reaches, and plain laws.
-/
import Derived.Maps.AppendAt
import Derived.OwnWalk
import Derived.Deep.Upon
import Derived.Test.YtebjpmmgdkepjaaGreatDoorLot01
import Derived.Test.YtebjpmmgdkepjaaGreatDoorLot03
/-
  Terms in prefix notation in plain Lean: pairs (kind, index); a function tells how many terms follow an element. Nothing of the program.
-/
namespace Go.Proofs.YtebjpmmgdkepjaaGreatDoor
open Go.RowKit

/-- how many elements the first n terms of a list have -/
def endP (f : Int → Nat) : List (Int × Int) → Nat → Option Nat
  | _, 0 => some 0
  | [], _ + 1 => none
  | x :: l, n + 1 => (endP f l (n + f x.1)).map (· + 1)
theorem endP_zero (f : Int → Nat) (l : List (Int × Int)) : endP f l 0 = some 0 := by cases l <;> rfl
theorem endP_nil (f : Int → Nat) (n : Nat) : endP f [] (n + 1) = none := rfl
theorem endP_cons (f : Int → Nat) (x : Int × Int) (l : List (Int × Int)) (n : Nat) : endP f (x :: l) (n + 1) = (endP f l (n + f x.1)).map (· + 1) := rfl
theorem endP_le {f : Int → Nat} : ∀ {l : List (Int × Int)} {n p : Nat}, endP f l n = some p → p ≤ l.length ∧ n ≤ p + l.length
  | l, 0, p, h => by rw [endP_zero] at h; injection h with h; subst h; omega
  | [], n + 1, p, h => by cases h
  | x :: l, n + 1, p, h => by
    rw [endP_cons] at h
    obtain ⟨q, hq, rfl⟩ := Option.map_eq_some_iff.1 h
    have := endP_le hq
    simp; omega
theorem endP_pos {f : Int → Nat} {l : List (Int × Int)} {n p : Nat} (h : endP f l (n + 1) = some p) : 1 ≤ p := by
  cases l with
  | nil => cases h
  | cons x l =>
    rw [endP_cons] at h
    obtain ⟨q, hq, rfl⟩ := Option.map_eq_some_iff.1 h
    omega
theorem endP_add {f : Int → Nat} : ∀ {l : List (Int × Int)} {a b r : Nat}, endP f l (a + b) = some r → ∃ p q, endP f l a = some p ∧ endP f (l.drop p) b = some q ∧ r = p + q
  | l, 0, b, r, h => by rw [Nat.zero_add] at h; exact ⟨0, r, endP_zero f l, by simpa using h, by omega⟩
  | [], a + 1, b, r, h => by rw [show a + 1 + b = (a + b) + 1 by omega] at h; cases h
  | x :: l, a + 1, b, r, h => by
    rw [show a + 1 + b = (a + b) + 1 by omega, endP_cons] at h
    obtain ⟨q, hq, rfl⟩ := Option.map_eq_some_iff.1 h
    rw [show a + b + f x.1 = (a + f x.1) + b by omega] at hq
    obtain ⟨p, q', h1, h2, rfl⟩ := endP_add hq
    exact ⟨p + 1, q', by rw [endP_cons, h1]; rfl, by simpa using h2, by omega⟩
theorem endP_app {f : Int → Nat} : ∀ {l : List (Int × Int)} {a b p q : Nat}, endP f l a = some p → endP f (l.drop p) b = some q → endP f l (a + b) = some (p + q)
  | l, 0, b, p, q, h, h' => by rw [endP_zero] at h; injection h with h; subst h; simpa using h'
  | [], a + 1, b, p, q, h, h' => by cases h
  | x :: l, a + 1, b, p, q, h, h' => by
    rw [endP_cons] at h
    obtain ⟨r, hr, rfl⟩ := Option.map_eq_some_iff.1 h
    rw [show a + 1 + b = (a + b) + 1 by omega, endP_cons, show a + b + f x.1 = (a + f x.1) + b by omega, endP_app hr (by simpa using h')]
    simp; omega
/-- a list that is one term: behind each element there are open terms, all of which end -/
theorem endP_drop {f : Int → Nat} : ∀ {l : List (Int × Int)} {n k : Nat}, endP f l n = some l.length → k < l.length → ∃ o, 1 ≤ o ∧ endP f (l.drop k) o = some (l.drop k).length
  | l, 0, k, h, hk => by rw [endP_zero] at h; injection h with h; omega
  | [], n + 1, k, h, hk => by cases h
  | x :: l, n + 1, 0, h, hk => ⟨n + 1, by omega, by simpa using h⟩
  | x :: l, n + 1, k + 1, h, hk => by
    rw [endP_cons] at h
    obtain ⟨q, hq, e⟩ := Option.map_eq_some_iff.1 h
    simp at e hk; subst e
    simpa using endP_drop hq hk
theorem endP_take {f : Int → Nat} : ∀ {l : List (Int × Int)} {n p : Nat}, endP f l n = some p → endP f (l.take p) n = some p
  | l, 0, p, h => by rw [endP_zero] at h ⊢; exact h
  | [], n + 1, p, h => by cases h
  | x :: l, n + 1, p, h => by
    rw [endP_cons] at h
    obtain ⟨q, hq, rfl⟩ := Option.map_eq_some_iff.1 h
    rw [List.take_succ_cons, endP_cons, endP_take hq]; rfl
/-- the element behind the n terms that begin at k, or -1 -/
def resE (f : Int → Nat) (c : List (Int × Int)) (k n : Nat) : Int := match endP f (c.drop k) n with
  | none => -1
  | some p => ((k + p : Nat) : Int)
theorem resE_zero (f : Int → Nat) (c : List (Int × Int)) (k : Nat) : resE f c k 0 = k := by rw [resE, endP_zero]; rfl
theorem resE_past {f : Int → Nat} {c : List (Int × Int)} {k n : Nat} (h : c.length ≤ k) : resE f c k (n + 1) = -1 := by rw [resE, List.drop_eq_nil_of_le h]; rfl
theorem resE_step {f : Int → Nat} {c : List (Int × Int)} {k n : Nat} {x : Int × Int} (h : c[k]? = some x) : resE f c k (n + 1) = resE f c (k + 1) (n + f x.1) := by
  rw [resE, resE, drop_at h, endP_cons]
  cases endP f (c.drop (k + 1)) (n + f x.1) with
  | none => rfl
  | some p => simp only [Option.map_some]; omega
theorem resE_some {f : Int → Nat} {c : List (Int × Int)} {k n p : Nat} (h : endP f (c.drop k) n = some p) : resE f c k n = ((k + p : Nat) : Int) := by rw [resE, h]

/-! ### Combinator terms -/
def manyC (k : Int) : Nat := if k = 0 then 2 else 0
def okC (x : Int × Int) : Bool := inB x.1 0 4 && inB x.2 0 399 && (decide (x.1 = 4) || decide (x.2 = 0))
def validC (c : List (Int × Int)) : Bool := inB c.length 1 400 && c.all okC && decide (endP manyC c 1 = some c.length)
/-- the reference's loop: the terms that are still open -/
def needC : List (Int × Int) → Nat → Bool
  | [], n => n == 0
  | x :: l, n => n != 0 && okC x && needC l (n - 1 + manyC x.1)
theorem needC_eq : ∀ (l : List (Int × Int)) (n : Nat), needC l n = (l.all okC && decide (endP manyC l n = some l.length))
  | [], 0 => by simp [needC, endP_zero]
  | [], n + 1 => by simp [needC, endP_nil]
  | x :: l, 0 => by simp [needC, endP_zero]
  | x :: l, n + 1 => by
    have h : (endP manyC (x :: l) (n + 1) = some (x :: l).length) ↔ (endP manyC l (n + manyC x.1) = some l.length) := by
      rw [endP_cons, List.length_cons]
      cases endP manyC l (n + manyC x.1) <;> simp
    have h' : decide (endP manyC (x :: l) (n + 1) = some (x :: l).length) = decide (endP manyC l (n + manyC x.1) = some l.length) := decide_eq_decide.2 h
    rw [needC, needC_eq l, List.all_cons, h']
    simp [Bool.and_assoc]
theorem validC_need (c : List (Int × Int)) : validC c = (inB c.length 1 400 && needC c 1) := by rw [validC, needC_eq, Bool.and_assoc]
theorem validC_end {c : List (Int × Int)} (h : validC c = true) : endP manyC c 1 = some c.length ∧ 1 ≤ c.length ∧ c.length ≤ 400 := by
  simp only [validC, Bool.and_eq_true, decide_eq_true_eq] at h
  have := inB_t h.1.1
  exact ⟨h.2, by omega, by omega⟩
/-- how many applications a list begins with -/
def leadC : List (Int × Int) → Nat
  | [] => 0
  | x :: l => if x.1 = 0 then leadC l + 1 else 0
theorem leadC_le : ∀ l : List (Int × Int), leadC l ≤ l.length
  | [] => Nat.le_refl _
  | x :: l => by
    rw [leadC]; split
    · have := leadC_le l; simp; omega
    · simp
theorem leadC_app : ∀ {l : List (Int × Int)} {i : Nat} {x : Int × Int}, l[i]? = some x → i < leadC l → x.1 = 0
  | y :: l, i, x, hx, hi => by
    rw [leadC] at hi
    split at hi
    · rename_i hy
      cases i with
      | zero => simp at hx; subst hx; exact hy
      | succ i => exact leadC_app (l := l) (by simpa using hx) (by omega)
    · omega
theorem leadC_stop : ∀ {l : List (Int × Int)} {x : Int × Int}, l[leadC l]? = some x → x.1 ≠ 0
  | y :: l, x, hx => by
    rw [leadC] at hx
    split at hx
    · rw [List.getElem?_cons_succ] at hx; exact leadC_stop hx
    · rename_i hy
      simp at hx; subst hx; exact hy
/-- a list whose first n + 1 terms end: behind the applications there is an element that is none, and its terms end -/
theorem leadC_end : ∀ {l : List (Int × Int)} {n p : Nat}, endP manyC l (n + 1) = some p → leadC l < l.length ∧ ∃ q, endP manyC (l.drop (leadC l + 1)) (n + leadC l) = some q ∧ p = leadC l + 1 + q
  | x :: l, n, p, h => by
    rw [endP_cons] at h
    obtain ⟨r, hr, rfl⟩ := Option.map_eq_some_iff.1 h
    rw [leadC]
    split
    · rename_i hx
      rw [hx, show manyC 0 = 1 + 1 from rfl, ← Nat.add_assoc] at hr
      obtain ⟨h1, q, h2, h3⟩ := leadC_end hr
      refine ⟨by simp; omega, q, ?_, by omega⟩
      rw [List.drop_succ_cons, show n + (leadC l + 1) = n + 1 + leadC l by omega]; exact h2
    · rename_i hx
      rw [manyC, if_neg hx] at hr
      exact ⟨by simp, r, by simpa using hr, by omega⟩
/-- the number of arguments of the form that a list begins with: 1 for I, 2 for K, 3 for S; 0 if there is none -/
def formC (l : List (Int × Int)) : Nat := match l[leadC l]? with
  | none => 0
  | some x => if x.1 = 3 ∧ leadC l = 1 ∨ x.1 = 2 ∧ leadC l = 2 ∨ x.1 = 1 ∧ leadC l = 3 then leadC l else 0
theorem formC_lead {l : List (Int × Int)} (h : 0 < formC l) : formC l = leadC l ∧ 1 ≤ leadC l ∧ leadC l ≤ 3 := by
  cases hx : l[leadC l]? with
  | none => rw [formC, hx] at h; exact absurd h (by simp)
  | some x =>
    rw [formC, hx] at h ⊢
    simp only at h ⊢
    split at h
    · rename_i hc
      rw [if_pos hc]; omega
    · omega
/-- whether a form of a combinator with so many arguments begins a list -/
def tryF : List (Int × Int) → Int → Nat → Bool
  | [], _, _ => false
  | x :: _, kind, 0 => x.1 == kind
  | x :: l, kind, m + 1 => x.1 == 0 && tryF l kind m
theorem tryF_true {kind : Int} (hk : kind ≠ 0) : ∀ {l : List (Int × Int)} {m : Nat}, tryF l kind m = true → leadC l = m ∧ ∃ x, l[m]? = some x ∧ x.1 = kind
  | [], m, h => by cases h
  | x :: l, 0, h => by
    have h1 : x.1 = kind := by simpa [tryF] using h
    exact ⟨by rw [leadC, if_neg (by rw [h1]; exact hk)], x, rfl, h1⟩
  | x :: l, m + 1, h => by
    simp only [tryF, Bool.and_eq_true, beq_iff_eq] at h
    obtain ⟨h1, y, h2, h3⟩ := tryF_true hk h.2
    exact ⟨by rw [leadC, if_pos h.1, h1], y, by simpa using h2, h3⟩
theorem tryF_of {kind : Int} : ∀ {l : List (Int × Int)} {m : Nat} {x : Int × Int}, leadC l = m → l[m]? = some x → x.1 = kind → tryF l kind m = true
  | y :: l, 0, x, h, hx, hk => by simp at hx; subst hx; simpa [tryF] using hk
  | y :: l, m + 1, x, h, hx, hk => by
    rw [leadC] at h
    split at h
    · rename_i hy
      rw [tryF, tryF_of (by omega) (by simpa using hx) hk]; simp [hy]
    · omega
  | [], 0, x, h, hx, hk => by cases hx
theorem formC_pick {l : List (Int × Int)} (h : 0 < formC l) : formC l = 1 ∧ tryF l 3 1 = true ∨ formC l = 2 ∧ tryF l 2 2 = true ∨ formC l = 3 ∧ tryF l 1 3 = true := by
  have hl := (formC_lead h).1
  cases hx : l[leadC l]? with
  | none => rw [formC, hx] at h; exact absurd h (by simp)
  | some x =>
    have h' := h
    rw [formC, hx] at h'
    simp only at h'
    split at h'
    · rename_i hc
      rcases hc with ⟨e, h1⟩ | ⟨e, h1⟩ | ⟨e, h1⟩
      · exact .inl ⟨by omega, tryF_of h1 (by rw [← h1]; exact hx) e⟩
      · exact .inr (.inl ⟨by omega, tryF_of h1 (by rw [← h1]; exact hx) e⟩)
      · exact .inr (.inr ⟨by omega, tryF_of h1 (by rw [← h1]; exact hx) e⟩)
    · omega
theorem formC_try {l : List (Int × Int)} {kind : Int} {m : Nat} (hk : kind = 3 ∧ m = 1 ∨ kind = 2 ∧ m = 2 ∨ kind = 1 ∧ m = 3) (h : formC l ≠ m) : tryF l kind m = false := by
  cases ht : tryF l kind m with
  | false => rfl
  | true =>
    obtain ⟨h1, x, h2, h3⟩ := tryF_true (by omega) ht
    exact absurd (by rw [formC, h1, h2]; simp only; rw [if_pos (by omega)]) h
/-- the first form: its index -/
def firstC (c : List (Int × Int)) : Nat → Nat → Option Nat
  | 0, _ => none
  | f + 1, k => if 0 < formC (c.drop k) then some k else firstC c f (k + 1)
theorem firstC_some {c : List (Int × Int)} : ∀ {f k i : Nat}, firstC c f k = some i → k ≤ i ∧ i < k + f ∧ 0 < formC (c.drop i)
  | 0, k, i, h => by cases h
  | f + 1, k, i, h => by
    rw [firstC] at h
    split at h
    · injection h with h; subst h; exact ⟨Nat.le_refl _, by omega, by assumption⟩
    · have := firstC_some h; omega
/-- where the term that begins at an index ends; where i terms behind an index end; the terms -/
def endAt (c : List (Int × Int)) (k : Nat) : Nat := k + (endP manyC (c.drop k) 1).getD 0
def endI (c : List (Int × Int)) (a : Nat) : Nat → Nat
  | 0 => a
  | i + 1 => endAt c (endI c a i)
theorem endI_succ (c : List (Int × Int)) (a : Nat) : ∀ i, endI c a (i + 1) = endI c (endAt c a) i
  | 0 => rfl
  | i + 1 => by
    show endAt c (endI c a (i + 1)) = endAt c (endI c (endAt c a) i)
    rw [endI_succ c a i]
theorem endI_ok {c : List (Int × Int)} : ∀ {m a q i : Nat}, endP manyC (c.drop a) m = some q → i < m → ∃ p, endP manyC (c.drop (endI c a i)) 1 = some p ∧ endI c a i + p = endI c a (i + 1) ∧ 1 ≤ p
  | 0, a, q, i, h, hi => absurd hi (by omega)
  | m + 1, a, q, i, h, hi => by
    rw [Nat.add_comm m 1] at h
    obtain ⟨p, q', h1, h2, rfl⟩ := endP_add h
    have he : endAt c a = a + p := by rw [endAt, h1]; rfl
    cases i with
    | zero => exact ⟨p, h1, he.symm, endP_pos h1⟩
    | succ i =>
      rw [List.drop_drop] at h2
      have := endI_ok (a := endAt c a) (i := i) (by rw [he]; exact h2) (by omega)
      rw [endI_succ c a i, endI_succ c a (i + 1)]; exact this
theorem endI_all {c : List (Int × Int)} : ∀ {m a q : Nat}, endP manyC (c.drop a) m = some q → endI c a m = a + q
  | 0, a, q, h => by rw [endP_zero] at h; injection h with h; subst h; rfl
  | m + 1, a, q, h => by
    rw [Nat.add_comm m 1] at h
    obtain ⟨p, q', h1, h2, rfl⟩ := endP_add h
    rw [List.drop_drop] at h2
    have he : endAt c a = a + p := by rw [endAt, h1]; rfl
    rw [endI_succ, endI_all (a := endAt c a) (by rw [he]; exact h2), he]; omega
theorem endI_mono {c : List (Int × Int)} {a : Nat} : ∀ {i j : Nat}, i ≤ j → endI c a i ≤ endI c a j
  | i, 0, h => by rw [Nat.le_zero.1 h]; exact Nat.le_refl _
  | i, j + 1, h => by
    rcases Nat.lt_or_ge i (j + 1) with h1 | h1
    · exact Nat.le_trans (endI_mono (Nat.le_of_lt_succ h1)) (by show endI c a j ≤ endAt c (endI c a j); unfold endAt; omega)
    · rw [show i = j + 1 by omega]; exact Nat.le_refl _
def argI (c : List (Int × Int)) (a i : Nat) : List (Int × Int) := (c.drop (endI c a i)).take (endI c a (i + 1) - endI c a i)
/-- what a form becomes that begins at an index; where it ends; what the term becomes: nothing is checked -/
def byC (c : List (Int × Int)) (k n : Nat) : List (Int × Int) :=
  if n < 3 then argI c (k + n + 1) 0
  else [(0, 0), (0, 0)] ++ argI c (k + n + 1) 0 ++ argI c (k + n + 1) 2 ++ [(0, 0)] ++ argI c (k + n + 1) 1 ++ argI c (k + n + 1) 2
def stepC (c : List (Int × Int)) (k : Nat) : List (Int × Int) :=
  c.take k ++ byC c k (formC (c.drop k)) ++ c.drop (endI c (k + formC (c.drop k) + 1) (formC (c.drop k)))
/-- a form in a valid term: its arguments end -/
theorem form_args {c : List (Int × Int)} {k : Nat} (h : endP manyC c 1 = some c.length) (hk : k < c.length) : leadC (c.drop k) < c.length - k ∧ ∃ q, endP manyC (c.drop (k + leadC (c.drop k) + 1)) (leadC (c.drop k)) = some q ∧ k + leadC (c.drop k) + 1 + q ≤ c.length := by
  obtain ⟨o, ho, h1⟩ := endP_drop h hk
  rw [show o = 1 + (o - 1) by omega] at h1
  obtain ⟨p, r, h2, _, _⟩ := endP_add h1
  obtain ⟨h3, q, h4, h5⟩ := leadC_end (n := 0) h2
  rw [Nat.zero_add, List.drop_drop] at h4
  rw [List.length_drop] at h3
  have h6 := (endP_le h2).1
  rw [List.length_drop] at h6
  exact ⟨h3, q, h4, by omega⟩
theorem argI_len {c : List (Int × Int)} {a i : Nat} : (argI c a i).length ≤ c.length := by rw [argI, List.length_take, List.length_drop]; omega
theorem byC_len {c : List (Int × Int)} {k n : Nat} : (byC c k n).length ≤ 4 * c.length + 3 := by
  unfold byC
  split
  · have := argI_len (c := c) (a := k + n + 1) (i := 0); omega
  · have h0 := argI_len (c := c) (a := k + n + 1) (i := 0)
    have h1 := argI_len (c := c) (a := k + n + 1) (i := 1)
    have h2 := argI_len (c := c) (a := k + n + 1) (i := 2)
    simp only [List.length_append, List.length_cons, List.length_nil]; omega
theorem stepC_len {c : List (Int × Int)} {k : Nat} : (stepC c k).length ≤ 6 * c.length + 3 := by
  have := byC_len (c := c) (k := k) (n := formC (c.drop k))
  simp only [stepC, List.length_append, List.length_take, List.length_drop]; omega
/-- the run: the term, the steps, whether it is normal; none: a term is not valid -/
def runC : Nat → List (Int × Int) → Nat → Option (List (Int × Int) × Nat × Bool)
  | 0, c, n => match firstC c c.length 0 with
    | none => some (c, n, true)
    | some _ => some (c, n, false)
  | b + 1, c, n => match firstC c c.length 0 with
    | none => some (c, n, true)
    | some k => if validC (stepC c k) then runC b (stepC c k) (n + 1) else none
def runK (b : Nat) (c : List (Int × Int)) (n : Nat) : Option Nat → Option (List (Int × Int) × Nat × Bool)
  | none => some (c, n, true)
  | some k => if b = 0 then some (c, n, false) else if validC (stepC c k) then runC (b - 1) (stepC c k) (n + 1) else none
theorem runC_eq (b : Nat) (c : List (Int × Int)) (n : Nat) : runC b c n = runK b c n (firstC c c.length 0) := by
  cases b with
  | zero => rw [runC]; cases firstC c c.length 0 <;> rfl
  | succ b => rw [runC]; cases firstC c c.length 0 <;> simp [runK]
theorem runC_valid : ∀ {b : Nat} {c : List (Int × Int)} {n : Nat} {t : List (Int × Int)} {s : Nat} {q : Bool}, validC c = true → runC b c n = some (t, s, q) → validC t = true ∧ n ≤ s ∧ s ≤ n + b
  | 0, c, n, t, s, q, hv, h => by
    rw [runC_eq] at h
    cases hf : firstC c c.length 0 with
    | none => rw [hf] at h; simp [runK] at h; obtain ⟨rfl, rfl, _⟩ := h; exact ⟨hv, by omega, by omega⟩
    | some k => rw [hf] at h; simp [runK] at h; obtain ⟨rfl, rfl, _⟩ := h; exact ⟨hv, by omega, by omega⟩
  | b + 1, c, n, t, s, q, hv, h => by
    rw [runC_eq] at h
    cases hf : firstC c c.length 0 with
    | none => rw [hf] at h; simp [runK] at h; obtain ⟨rfl, rfl, _⟩ := h; exact ⟨hv, by omega, by omega⟩
    | some k =>
      rw [hf] at h
      simp only [runK, Nat.add_sub_cancel] at h
      rw [if_neg (by omega)] at h
      split at h
      · rename_i hs
        have := runC_valid hs h
        exact ⟨this.1, by omega, by omega⟩
      · cases h
def rcX : Option (List (Int × Int) × Nat × Bool) → List (Int × Int) × Int × Bool × Int
  | none => ([], 0, false, 5)
  | some (t, n, b) => (t, n, b, 0)
/-- the answer: the term, the steps, whether it is normal, the code -/
def rcR (c : List (Int × Int)) (budget : Int) : List (Int × Int) × Int × Bool × Int :=
  if validC c = false then ([], 0, false, 1)
  else if inB budget 1 20000 = false then ([], 0, false, 2)
  else rcX (runC budget.toNat c 0)
end Go.Proofs.YtebjpmmgdkepjaaGreatDoor
/-
  Applications of combinator terms, variables, numerals, in plain Lean. Nothing of the program.
-/
namespace Go.Proofs.YtebjpmmgdkepjaaGreatDoor
open Go.RowKit

/-- the indices of the variables -/
def varsC (c : List (Int × Int)) : List Int := c.filterMap fun x => if x.1 = 4 then some x.2 else none
def hasV (c : List (Int × Int)) : Bool := c.any fun x => decide (x.1 = 4)
theorem varsC_nil (c : List (Int × Int)) : varsC c = [] ↔ hasV c = false := by
  induction c with
  | nil => simp [varsC, hasV]
  | cons x l ih =>
    unfold varsC hasV at *
    by_cases h : x.1 = 4
    · simp [h]
    · simp only [List.filterMap_cons, h, if_false, List.any_cons, decide_false, Bool.false_or]; exact ih
def varT (v : Int) : Int × Int := (4, v)
/-- the application to variables -/
def appV (c : List (Int × Int)) (vs : List Int) : List (Int × Int) := List.replicate vs.length (0, 0) ++ c ++ vs.map varT
theorem appV_len (c : List (Int × Int)) (vs : List Int) : (appV c vs).length = c.length + 2 * vs.length := by simp [appV]; omega
theorem endP_apps {l : List (Int × Int)} {p : Nat} : ∀ {m n : Nat}, endP manyC l (n + 1 + m) = some p → endP manyC (List.replicate m (0, 0) ++ l) (n + 1) = some (m + p)
  | 0, n, h => by simpa using h
  | m + 1, n, h => by
    rw [List.replicate_succ, List.cons_append, endP_cons]
    rw [show n + manyC 0 = (n + 1) + 1 by simp [manyC]]
    rw [endP_apps (m := m) (n := n + 1) (by rw [show n + 1 + 1 + m = n + 1 + (m + 1) by omega]; exact h)]
    simp; omega
theorem endP_vars : ∀ (vs : List Int), endP manyC (vs.map varT) vs.length = some vs.length
  | [] => rfl
  | v :: vs => by
    rw [List.map_cons, List.length_cons, endP_cons]
    rw [show manyC (varT v).1 = 0 from rfl, Nat.add_zero, endP_vars vs]; rfl
theorem endP_more {f : Int → Nat} : ∀ {l r : List (Int × Int)} {n p : Nat}, endP f l n = some p → endP f (l ++ r) n = some p
  | l, r, 0, p, h => by rw [endP_zero] at h ⊢; exact h
  | [], r, n + 1, p, h => by cases h
  | x :: l, r, n + 1, p, h => by
    rw [endP_cons] at h
    obtain ⟨q, hq, rfl⟩ := Option.map_eq_some_iff.1 h
    rw [List.cons_append, endP_cons, endP_more hq]; rfl
theorem endP_appV {c : List (Int × Int)} (h : endP manyC c 1 = some c.length) (vs : List Int) : endP manyC (appV c vs) 1 = some (appV c vs).length := by
  have h1 : endP manyC (c ++ vs.map varT) (1 + vs.length) = some (c.length + vs.length) := endP_app (endP_more h) (by rw [List.drop_left]; exact endP_vars vs)
  have h2 := endP_apps (m := vs.length) (n := 0) (l := c ++ vs.map varT) (p := c.length + vs.length) (by rw [Nat.zero_add]; exact h1)
  rw [Nat.zero_add, ← List.append_assoc] at h2
  rw [appV_len, appV, h2]
  congr 1; omega
theorem validC_appV {c : List (Int × Int)} (h : validC c = true) (vs : List Int) (hv : ∀ v ∈ vs, inB v 0 399 = true) : validC (appV c vs) = decide ((appV c vs).length ≤ 400) := by
  obtain ⟨h1, h2, h3⟩ := validC_end h
  have hall : (appV c vs).all okC = true := by
    simp only [validC, Bool.and_eq_true] at h
    simp only [appV, List.all_append, Bool.and_eq_true]
    refine ⟨⟨?_, h.1.2⟩, ?_⟩
    · rw [List.all_eq_true]; intro x hx
      obtain ⟨_, rfl⟩ := List.mem_replicate.1 hx; rfl
    · rw [List.all_eq_true]; intro x hx
      obtain ⟨v, hv', rfl⟩ := List.mem_map.1 hx
      show (inB 4 0 4 && inB v 0 399 && (decide ((4 : Int) = 4) || decide (v = 0))) = true
      rw [hv v hv']; rfl
  rw [validC, hall, decide_eq_true (endP_appV h1 vs), Bool.and_true, Bool.and_true]
  have hl : 1 ≤ (appV c vs).length := by rw [appV_len]; omega
  unfold inB
  rw [decide_eq_true (show (1 : Int) ≤ ((appV c vs).length : Int) by omega), Bool.true_and]
  exact decide_eq_decide.2 (by omega)
/-- the numeral of a number -/
def numC : Nat → List (Int × Int)
  | 0 => [(4, 1)]
  | n + 1 => (0, 0) :: (4, 0) :: numC n
theorem numC_len : ∀ n, (numC n).length = 2 * n + 1
  | 0 => rfl
  | n + 1 => by rw [numC]; simp [numC_len n]; omega
/-- the reference's test -/
def cntR : List (Int × Int) → Bool
  | [] => false
  | [x] => decide (x = (4, 1))
  | x :: y :: l => decide (x.1 = 0) && decide (y = (4, 0)) && cntR l
theorem cntR_odd : ∀ {l : List (Int × Int)}, cntR l = true → l.length % 2 = 1 ∧ l[l.length - 1]? = some (4, 1)
  | [], h => by cases h
  | [x], h => by
    have : x = (4, 1) := by simpa [cntR] using h
    subst this; exact ⟨rfl, rfl⟩
  | x :: y :: l, h => by
    simp only [cntR, Bool.and_eq_true] at h
    obtain ⟨h1, h2⟩ := cntR_odd h.2
    refine ⟨by simp; omega, ?_⟩
    have hl : 1 ≤ l.length := by omega
    simp only [List.length_cons]
    rw [show l.length + 1 + 1 - 1 = (l.length - 1) + 1 + 1 by omega, List.getElem?_cons_succ, List.getElem?_cons_succ]; exact h2
theorem cntR_num : ∀ {l : List (Int × Int)}, l.all okC = true → cntR l = decide (l = numC ((l.length - 1) / 2))
  | [], _ => by simp [cntR, numC]
  | [x], _ => by simp [cntR, numC]
  | x :: y :: l, h => by
    simp only [List.all_cons, Bool.and_eq_true] at h
    have ih := cntR_num h.2.2
    rw [cntR, ih]
    by_cases hl : l = []
    · subst hl
      simp [numC]
    · have hp : 1 ≤ l.length := List.length_pos_iff.2 hl
      rw [show ((x :: y :: l).length - 1) / 2 = (l.length - 1) / 2 + 1 by simp; omega, numC]
      have hx : x.1 = 0 ↔ x = (0, 0) := by
        constructor
        · intro e
          have := h.1
          simp only [okC, Bool.and_eq_true, Bool.or_eq_true, decide_eq_true_eq] at this
          rcases this.2 with h4 | h4
          · omega
          · exact Prod.ext e h4
        · intro e; rw [e]
      have e1 : decide (x.1 = 0) = decide (x = (0, 0)) := decide_eq_decide.2 hx
      rw [e1]
      simp only [List.cons.injEq, Bool.decide_and, Bool.and_assoc]
theorem validC_all {c : List (Int × Int)} (h : validC c = true) : c.all okC = true := by
  simp only [validC, Bool.and_eq_true] at h; exact h.1.2
/-- the number of a term: the number, the steps, the code -/
def nuX : Option (List (Int × Int) × Nat × Bool) → Int × Int × Int
  | some (o, s, true) => if cntR o = true then (((o.length - 1) / 2 : Nat), s, 0) else (0, 0, 3)
  | _ => (0, 0, 5)
def nuN (c : List (Int × Int)) (b : Nat) : Int × Int × Int := if (appV c [0, 1]).length ≤ 400 then nuX (runC b (appV c [0, 1]) 0) else (0, 0, 5)
def nuR (c : List (Int × Int)) (b : Int) : Int × Int × Int :=
  if validC c = false then (0, 0, 1) else if inB b 1 20000 = false then (0, 0, 2) else if hasV c = true then (0, 0, 2) else nuN c b.toNat
/-- numbers put in their places, each once -/
def putS (v : Int) : List Int → List Int
  | [] => [v]
  | x :: l => if v ≤ x then (if x = v then x :: l else v :: x :: l) else x :: putS v l
theorem putS_mem {v y : Int} : ∀ {l : List Int}, y ∈ putS v l ↔ y = v ∨ y ∈ l
  | [] => by simp [putS]
  | x :: l => by
    rw [putS]
    split
    · split
      · rename_i e; subst e; simp
      · simp
    · rw [List.mem_cons, putS_mem, List.mem_cons]
      constructor
      · rintro (h | h | h)
        · exact .inr (.inl h)
        · exact .inl h
        · exact .inr (.inr h)
      · rintro (h | h | h)
        · exact .inr (.inl h)
        · exact .inl h
        · exact .inr (.inr h)
theorem putS_len {v : Int} : ∀ {l : List Int}, (putS v l).length ≤ l.length + 1
  | [] => by simp [putS]
  | x :: l => by
    rw [putS]
    split
    · split <;> simp
    · have := putS_len (v := v) (l := l); simp; omega
def namesC (c : List (Int × Int)) : List Int := (varsC c).foldl (fun out v => putS v out) []
theorem foldPut_mem {y : Int} : ∀ (vs acc : List Int), y ∈ vs.foldl (fun out v => putS v out) acc ↔ y ∈ vs ∨ y ∈ acc
  | [], acc => by simp
  | v :: vs, acc => by
    rw [List.foldl_cons, foldPut_mem vs, putS_mem, List.mem_cons]
    constructor
    · rintro (h | h | h)
      · exact .inl (.inr h)
      · exact .inl (.inl h)
      · exact .inr h
    · rintro ((h | h) | h)
      · exact .inr (.inl h)
      · exact .inl h
      · exact .inr (.inr h)
theorem namesC_mem {c : List (Int × Int)} {y : Int} : y ∈ namesC c ↔ y ∈ varsC c := by simp [namesC, foldPut_mem]
theorem namesC_nil (c : List (Int × Int)) : namesC c = [] ↔ hasV c = false := by
  rw [← varsC_nil]
  constructor
  · intro h; apply List.eq_nil_iff_forall_not_mem.2; intro y hy; rw [← namesC_mem, h] at hy; cases hy
  · intro h; apply List.eq_nil_iff_forall_not_mem.2; intro y hy; rw [namesC_mem, h] at hy; cases hy
/-- one more than the greatest of some numbers, 0 at least -/
def topI (vs : List Int) : Int := vs.foldl (fun m v => max m (v + 1)) 0
theorem foldMax_le : ∀ (vs : List Int) (m k : Int), vs.foldl (fun m v => max m (v + 1)) m ≤ k ↔ m ≤ k ∧ ∀ v ∈ vs, v + 1 ≤ k
  | [], m, k => by simp
  | v :: vs, m, k => by
    rw [List.foldl_cons, foldMax_le vs]
    simp only [List.mem_cons, forall_eq_or_imp]
    constructor
    · rintro ⟨h1, h2⟩; exact ⟨by omega, by omega, h2⟩
    · rintro ⟨h1, h2, h3⟩; exact ⟨by omega, h3⟩
theorem topI_congr {vs ws : List Int} (h : ∀ y, y ∈ vs ↔ y ∈ ws) : topI vs = topI ws := by
  have h1 : topI vs ≤ topI ws := (foldMax_le vs 0 _).2 ⟨((foldMax_le ws 0 (topI ws)).1 (Int.le_refl _)).1, fun v hv => ((foldMax_le ws 0 (topI ws)).1 (Int.le_refl _)).2 v ((h v).1 hv)⟩
  have h2 : topI ws ≤ topI vs := (foldMax_le ws 0 _).2 ⟨((foldMax_le vs 0 (topI vs)).1 (Int.le_refl _)).1, fun v hv => ((foldMax_le vs 0 (topI vs)).1 (Int.le_refl _)).2 v ((h v).2 hv)⟩
  omega
end Go.Proofs.YtebjpmmgdkepjaaGreatDoor
/-
  The helpers of the laws at []Comb: sizes, copies, comparisons, marks.
-/
namespace Go.Proofs.YtebjpmmgdkepjaaGreatDoor
open Go.RowKit

end Go.Proofs.YtebjpmmgdkepjaaGreatDoor
/-
  append onto a slice of the call's own, its value written out: one law for a region's list of operations.
-/
namespace Go.Proofs.YtebjpmmgdkepjaaGreatDoor
open Go.RowKit

/-- a slice of the call's own: nil, or the head of a row in a block from B on, whose cells are known -/
def Own (w : World) (B : Nat) (e : TypeId) (size : Nat) (A : Option Addr) (n c : Nat) (vs : List Value) : Prop := w.ownsRow B e size (.slice A n c) n vs

section
variable {w w' : World} {B : Nat} {e : TypeId} {size n c : Nat} {A : Option Addr} {vs : List Value}
theorem Own.nil : Own w B e size none 0 0 [] := ⟨by simp, .inl ⟨rfl, rfl⟩⟩
theorem Own.len (h : Own w B e size A n c vs) : vs.length = n * size := h.1
theorem Own.block (h : Own w B e size A n c vs) {ad : Addr} (ha : A = some ad) : B ≤ ad.block ∧ ad.block < w.heap.size ∧ ad = ⟨ad.block, 0, none⟩ ∧ ∃ cur, w.heap[ad.block]? = some (.cells cur e (0, 0)) := by
  rcases h.2 with ⟨hv, _⟩ | ⟨g, cap, cur, hv, hB, hh, _⟩
  · injection hv with hv; rw [ha] at hv; cases hv
  · injection hv with hv; rw [ha] at hv; injection hv with hv; subst hv
    exact ⟨hB, Blk.lt hh, rfl, cur, hh⟩
theorem Own.ne_ (h : Own w B e size A n c vs) {g : Nat} {t : TypeId} {cs : Array Value} (hg : Blk w g t cs) (hne : t ≠ e) (ad : Addr) (ha : A = some ad) : ad.block ≠ g := by
  rintro rfl
  obtain ⟨_, _, _, cur, hc⟩ := h.block ha
  unfold Blk at hg
  rw [hg] at hc
  injection hc with hc
  injection hc with _ ht
  exact hne ht
theorem Own.move (h : Own w B e size A n c vs) (hk : ∀ ad, A = some ad → w'.heap[ad.block]? = w.heap[ad.block]?) : Own w' B e size A n c vs := by
  refine ⟨h.1, ?_⟩
  rcases h.2 with ⟨hv, hn⟩ | ⟨g, cap, cur, hv, hB, hh, h1, h2, h3, h4⟩
  · exact .inl ⟨hv, hn⟩
  · injection hv with ha hn hc
    subst hc
    exact .inr ⟨g, c, cur, by rw [ha], hB, (hk _ ha).trans hh, h1, h2, h3, h4⟩
theorem Own.keep (h : Own w B e size A n c vs) (hb : Below w.heap.size w w') : Own w' B e size A n c vs := h.move fun _ ha => hb.block _ (h.block ha).2.1
theorem Own.alloc (h : Own w B e size A n c vs) (o : Obj) : Own (w.alloc o) B e size A n c vs := h.keep (below_size.alloc (Nat.le_refl _) o)
theorem Own.drew (h : Own w B e size A n c vs) : Own w.drew B e size A n c vs := h
theorem Own.far (h : Own w B e size A n c vs) {p : Addr} (hp : ∀ ad, A = some ad → ad.block ≠ p.block) (u : Value) : Own (w.setCell p u) B e size A n c vs :=
  h.move fun ad ha => Below.heap_setCell w p u ad.block (hp ad ha)
theorem Own.wr (h : Own w B e 1 A n c vs) : Wr w B w.heap.size A n vs := by
  refine ⟨by rw [h.1, Nat.mul_one], fun hn => ?_⟩
  rcases h.2 with ⟨hv, h0⟩ | ⟨g, cap, cur, hv, hB, hh, h1, h2, h3, h4⟩
  · omega
  · injection hv with ha _ hc
    subst ha
    have hb : Blk w g e cur := hh
    refine ⟨_, rfl, hB, hb.lt, hb.lt, fun j v hj => ?_⟩
    rw [head_add]
    refine ⟨?_, hb.frozen j⟩
    rw [hb.cell, ← hj, ← h4, List.getElem?_take, Nat.mul_one]
    split
    · simp
    · rename_i hlt
      rw [← h4, List.getElem?_take, Nat.mul_one, if_neg hlt] at hj; cases hj
end

theorem Wr.take {w : World} {lo hi n k : Nat} {A : Option Addr} {vs : List Value} (h : Wr w lo hi A n vs) (hk : k ≤ n) : Wr w lo hi A k (vs.take k) := by
  refine ⟨by rw [List.length_take, h.1]; omega, fun hn => ?_⟩
  obtain ⟨ad, e, h1, h2, h3, hc⟩ := h.2 (by omega)
  refine ⟨ad, e, h1, h2, h3, fun j v hj => hc j v ?_⟩
  rw [List.getElem?_take] at hj
  split at hj
  · exact hj
  · cases hj
theorem Own.lit {w : World} {B : Nat} {e : TypeId} (hB : B ≤ w.heap.size) : Own (w.alloc (.cells #[] e)) B e 1 (some ⟨w.heap.size, 0, none⟩) 0 0 [] :=
  ⟨by simp, .inr ⟨w.heap.size, 0, #[], rfl, hB, heap_alloc_new w _, by omega, by simp [maxLen], by simp, by simp⟩⟩
theorem Own.made {w : World} {B : Nat} {e : TypeId} (z : Value) (c : Nat) (hB : B ≤ w.heap.size) (hc : c ≤ 10000000000000) : Own (w.alloc (.cells (Array.replicate c z) e)) B e 1 (some ⟨w.heap.size, 0, none⟩) 0 c [] :=
  ⟨by simp, .inr ⟨w.heap.size, c, Array.replicate c z, rfl, hB, heap_alloc_new w _, by omega, by simp [maxLen]; omega, by simp, by simp⟩⟩
theorem Own.keepR {w w' : World} {B : Nat} {e : TypeId} {size n c lo hi : Nat} {A : Option Addr} {vs : List Value} (h : Own w B e size A n c vs) (hk : KeepR lo hi w w') (hx : hi ≤ B) : Own w' B e size A n c vs :=
  h.move fun _ ha => hk.block _ (h.block ha).2.1 (.inr (Nat.le_trans hx (h.block ha).1))

theorem Own.wrK {w : World} {B : Nat} {e : TypeId} {k n c : Nat} {A : Option Addr} {vs : List Value} (h : Own w B e k A n c vs) : Wr w B w.heap.size A (n * k) vs := by
  refine ⟨h.1, fun hn => ?_⟩
  rcases h.2 with ⟨hv, h0⟩ | ⟨g, cap, cur, hv, hB, hh, h1, h2, h3, h4⟩
  · rw [h0] at hn; omega
  · injection hv with ha _ hc
    subst ha
    have hb : Blk w g e cur := hh
    refine ⟨_, rfl, hB, hb.lt, hb.lt, fun j v hj => ?_⟩
    rw [head_add]
    refine ⟨?_, hb.frozen j⟩
    rw [hb.cell, ← hj, ← h4, List.getElem?_take]
    split
    · simp
    · rename_i hlt
      rw [← h4, List.getElem?_take, if_neg hlt] at hj; cases hj
theorem Own.litK {w : World} {B k : Nat} {e : TypeId} (hB : B ≤ w.heap.size) : Own (w.alloc (.cells #[] e)) B e k (some ⟨w.heap.size, 0, none⟩) 0 0 [] :=
  ⟨by simp, .inr ⟨w.heap.size, 0, #[], rfl, hB, heap_alloc_new w _, by omega, by simp [maxLen], by simp, by simp⟩⟩
/-- a call that hands back a slice of its own -/
def IntsOut (xs : List Int) (w : World) (e : Ending) (w' : World) : Prop := ∃ A c, e = .returned (.slice A xs.length c) ∧ Wr w' w.heap.size w'.heap.size A xs.length (xs.map i64) ∧ Below w.heap.size w w'
/-- .. and a code -/
def IntsOut2 (R : List Int × Int) (w : World) (e : Ending) (w' : World) : Prop := ∃ A n c, e = .returned (.tuple #[.slice A n c, .int .i64 R.2]) ∧ Wr w' w.heap.size w'.heap.size A n (R.1.map i64) ∧ n ≤ 1000000 ∧ Below w.heap.size w w'

section
variable {P : Program}
theorem wp_app {ops : Array Oper} {rest : List Oper} {o : Oper} {a : Act} {w : World} {Q : Exit → Act → World → Prop} (hgd : o.guard = none) (s x : Operand) (t e : TypeId) (z : Value) (size bytes : Nat)
    (ho : o.op = .call { callee := .builtin .append, args := #[s, x], argTypes := #[t, t] })
    (ht : P.underlying t = some (.slice e)) (hinfo : (P.info? e).map (fun i => (i.zero, i.size, i.bytes)) = some (some z, size, bytes)) (hzs : z.cells.size = size) (hsz : 0 < size)
    (B : Nat) (A : Option Addr) (n c : Nat) (vs : List Value) (hs : a.eval s = .slice A n c) (hown : Own w B e size A n c vs)
    (ad : Addr) (m c' : Nat) (news : List Value) (hx : a.eval x = .slice (some ad) m c') (hm : 0 < m) (hl : news.length = m * size) (hnews : ∀ j u, news[j]? = some u → w.cell? (ad.add j) = some u) (h1 : ∀ u ∈ news, u.oneCell' = true)
    (hlen : n + m ≤ 10000000000000) (hby : (n + m) * bytes ≤ 140737488355328) (hB : B ≤ w.heap.size)
    (h : ∀ g' cap w', Own w' B e size (some ⟨g', 0, none⟩) (n + m) cap (vs ++ news) → Below B w w' → (∀ b, b < w.heap.size → (∀ ad', A = some ad' → ad'.block ≠ b) → w'.heap[b]? = w.heap[b]?) → (A = some ⟨g', 0, none⟩ ∨ g' = w.heap.size) → w.heap.size ≤ w'.heap.size →
      wpList P ops Q rest (a.put o.dst (.slice (some ⟨g', 0, none⟩) (n + m) cap)) w') : wpList P ops Q (o :: rest) a w := by
  obtain ⟨i, hi0, hi1⟩ := Option.map_eq_some_iff.1 hinfo
  simp only [Prod.mk.injEq] at hi1
  obtain ⟨e1, e2, e3⟩ := hi1
  have hbytes := hby
  obtain ⟨v', w', hrun, h2, h3, _, h5⟩ := run_append_own_at (P := P) w B t o.type e i z size bytes ht hi0 e1 e2 e3 hzs hsz (.slice A n c) n vs hown ad m c' news hl hnews h1 (by simp only [maxLen]; omega) hbytes hB
  refine wpList_plain hgd fun K hK => ?_
  unfold Oper.wp execOp
  simp only [ho, resolve, invoke, builtin, Sem.run_bind, Sem.run_pure, Result.andThen_ok, List.map_toArray, List.map_cons, List.map_nil, hs, hx, hrun]
  refine hK _ _ ?_
  obtain ⟨g', cap, hv⟩ : ∃ g' cap, v' = .slice (some ⟨g', 0, none⟩) (n + m) cap := by
    rcases h2.2 with ⟨_, h0⟩ | ⟨g', cap, _, hv, _⟩
    · omega
    · exact ⟨g', cap, hv⟩
  subst hv
  have hA : A = some ⟨g', 0, none⟩ ∨ g' = w.heap.size := by
    rcases h5 with h5 | h5
    · cases A with
      | none => simp [Value.ownBlock] at h5
      | some ad' =>
        simp [Value.ownBlock] at h5
        have := (hown.block rfl).2.2.1
        rw [this, ← h5]; exact .inl rfl
    · simp [Value.ownBlock] at h5; exact .inr h5
  have hown' : ∀ ad', A = some ad' → (Value.slice A n c).ownBlock = some ad'.block := fun ad' e => by rw [e]; rfl
  refine h g' cap w' h2 ?_ ?_ hA h3.size
  · refine ⟨h3.os, h3.tape, h3.output, h3.size, fun k hk => h3.block k (by omega) ?_⟩
    cases A with
    | none => simp [Value.ownBlock]
    | some ad' =>
      have := (hown.block rfl).1
      simp [Value.ownBlock]; omega
  · intro b hb hne
    refine h3.block b hb ?_
    cases A with
    | none => simp [Value.ownBlock]
    | some ad' =>
      have := hne ad' rfl
      simp [Value.ownBlock]; omega

/-- one element of one cell, out of a block that was just laid -/
theorem wp_app1 {ops : Array Oper} {rest : List Oper} {o : Oper} {a : Act} {w : World} {Q : Exit → Act → World → Prop} (hgd : o.guard = none) (s x : Operand) (t e : TypeId) (z : Value) (bytes : Nat)
    (ho : o.op = .call { callee := .builtin .append, args := #[s, x], argTypes := #[t, t] })
    (ht : P.underlying t = some (.slice e)) (hinfo : (P.info? e).map (fun i => (i.zero, i.size, i.bytes)) = some (some z, 1, bytes)) (hzs : z.cells.size = 1)
    (B : Nat) (A : Option Addr) (n c : Nat) (vs : List Value) (hs : a.eval s = .slice A n c) (hown : Own w B e 1 A n c vs)
    (g : Nat) (u : Value) (hx : a.eval x = .slice (some ⟨g, 0, none⟩) 1 1) (hu : w.cell? ⟨g, 0, none⟩ = some u) (h1 : u.oneCell' = true)
    (hlen : n + 1 ≤ 10000000000000) (hby : (n + 1) * bytes ≤ 140737488355328) (hB : B ≤ w.heap.size)
    (h : ∀ g' cap w', Own w' B e 1 (some ⟨g', 0, none⟩) (n + 1) cap (vs ++ [u]) → Below B w w' → (∀ b, b < w.heap.size → (∀ ad', A = some ad' → ad'.block ≠ b) → w'.heap[b]? = w.heap[b]?) → (A = some ⟨g', 0, none⟩ ∨ g' = w.heap.size) → w.heap.size ≤ w'.heap.size →
      wpList P ops Q rest (a.put o.dst (.slice (some ⟨g', 0, none⟩) (n + 1) cap)) w') : wpList P ops Q (o :: rest) a w :=
  wp_app hgd s x t e z 1 bytes ho ht hinfo hzs (by omega) B A n c vs hs hown ⟨g, 0, none⟩ 1 1 [u] hx (by omega) (by simp)
    (fun j v hj => by cases j with | zero => simp at hj; subst hj; exact hu | succ j => simp at hj) (by simpa using h1) hlen hby hB h
end
/-- append of nothing -/
theorem wp_app0 {P : Program} {ops : Array Oper} {rest : List Oper} {o : Oper} {a : Act} {w : World} {Q : Exit → Act → World → Prop} (hgd : o.guard = none) (s x : Operand) (t e : TypeId) (z : Value) (size bytes : Nat)
    (ho : o.op = .call { callee := .builtin .append, args := #[s, x], argTypes := #[t, t] })
    (ht : P.underlying t = some (.slice e)) (hinfo : (P.info? e).map (fun i => (i.zero, i.size, i.bytes)) = some (some z, size, bytes))
    (A : Option Addr) (n c : Nat) (hs : a.eval s = .slice A n c) (hle : n ≤ c) (B : Option Addr) (c' : Nat) (hx : a.eval x = .slice B 0 c')
    (h : wpList P ops Q rest (a.put o.dst (.slice A n c)) w) : wpList P ops Q (o :: rest) a w := by
  obtain ⟨i, hi0, hi1⟩ := Option.map_eq_some_iff.1 hinfo
  have hsrc : Src P i.size t (.slice B 0 c') 0 [] w := by
    cases B with
    | none => exact Src.ofNil w ht c'
    | some ad => exact Src.ofSlice w ht ad 0 c' [] (by simp) (fun j u hj => by simp at hj) (fun u hu => by cases hu)
  have hrun := run_append_nothing (P := P) w t t o.type e i ht hi0 A n c hle (.slice B 0 c') hsrc
  refine wpList_plain hgd fun K hK => ?_
  unfold Oper.wp execOp
  simp only [ho, resolve, invoke, builtin, Sem.run_bind, Sem.run_pure, Result.andThen_ok, List.map_toArray, List.map_cons, List.map_nil, hs, hx, hrun]
  exact hK _ _ h

theorem Own.cap {w : World} {B : Nat} {e : TypeId} {size n c : Nat} {A : Option Addr} {vs : List Value} (h : Own w B e size A n c vs) : n ≤ c := by
  rcases h.2 with ⟨hv, h0⟩ | ⟨g, cap, cur, hv, _, _, h1, _⟩
  · omega
  · injection hv with _ _ hc; subst hc; exact h1
end Go.Proofs.YtebjpmmgdkepjaaGreatDoor
