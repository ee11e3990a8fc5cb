/-
  Parts of the proof, one behind the other: contracts of the functions that the law reaches, and plain laws.
-/
import Derived.Test.YtebjpmmgdkepjaaGreatDoorLot03
/-
  Terms in prefix notation in plain Lean: pairs (kind, index); a function tells how many terms follow an element. Nothing of the program.
-/
namespace Go.Proofs.YtebjpmmgdkepjaaGreatDoor
open Go.RowKit

/-- how many elements the first n terms of a list have -/
def endP (f : Int → Nat) : List (Int × Int) → Nat → Option Nat
  | _, 0 => some 0
  | [], _ + 1 => none
  | x :: l, n + 1 => (endP f l (n + f x.1)).map (· + 1)
theorem endP_zero (f : Int → Nat) (l : List (Int × Int)) : endP f l 0 = some 0 := by cases l <;> rfl
theorem endP_nil (f : Int → Nat) (n : Nat) : endP f [] (n + 1) = none := rfl
theorem endP_cons (f : Int → Nat) (x : Int × Int) (l : List (Int × Int)) (n : Nat) : endP f (x :: l) (n + 1) = (endP f l (n + f x.1)).map (· + 1) := rfl
theorem endP_le {f : Int → Nat} : ∀ {l : List (Int × Int)} {n p : Nat}, endP f l n = some p → p ≤ l.length ∧ n ≤ p + l.length
  | l, 0, p, h => by rw [endP_zero] at h; injection h with h; subst h; omega
  | [], n + 1, p, h => by cases h
  | x :: l, n + 1, p, h => by
    rw [endP_cons] at h
    obtain ⟨q, hq, rfl⟩ := Option.map_eq_some_iff.1 h
    have := endP_le hq
    simp; omega
theorem endP_pos {f : Int → Nat} {l : List (Int × Int)} {n p : Nat} (h : endP f l (n + 1) = some p) : 1 ≤ p := by
  cases l with
  | nil => cases h
  | cons x l =>
    rw [endP_cons] at h
    obtain ⟨q, hq, rfl⟩ := Option.map_eq_some_iff.1 h
    omega
theorem endP_add {f : Int → Nat} : ∀ {l : List (Int × Int)} {a b r : Nat}, endP f l (a + b) = some r → ∃ p q, endP f l a = some p ∧ endP f (l.drop p) b = some q ∧ r = p + q
  | l, 0, b, r, h => by rw [Nat.zero_add] at h; exact ⟨0, r, endP_zero f l, by simpa using h, by omega⟩
  | [], a + 1, b, r, h => by rw [show a + 1 + b = (a + b) + 1 by omega] at h; cases h
  | x :: l, a + 1, b, r, h => by
    rw [show a + 1 + b = (a + b) + 1 by omega, endP_cons] at h
    obtain ⟨q, hq, rfl⟩ := Option.map_eq_some_iff.1 h
    rw [show a + b + f x.1 = (a + f x.1) + b by omega] at hq
    obtain ⟨p, q', h1, h2, rfl⟩ := endP_add hq
    exact ⟨p + 1, q', by rw [endP_cons, h1]; rfl, by simpa using h2, by omega⟩
theorem endP_app {f : Int → Nat} : ∀ {l : List (Int × Int)} {a b p q : Nat}, endP f l a = some p → endP f (l.drop p) b = some q → endP f l (a + b) = some (p + q)
  | l, 0, b, p, q, h, h' => by rw [endP_zero] at h; injection h with h; subst h; simpa using h'
  | [], a + 1, b, p, q, h, h' => by cases h
  | x :: l, a + 1, b, p, q, h, h' => by
    rw [endP_cons] at h
    obtain ⟨r, hr, rfl⟩ := Option.map_eq_some_iff.1 h
    rw [show a + 1 + b = (a + b) + 1 by omega, endP_cons, show a + b + f x.1 = (a + f x.1) + b by omega, endP_app hr (by simpa using h')]
    simp; omega
/-- a list that is one term: behind each element there are open terms, all of which end -/
theorem endP_drop {f : Int → Nat} : ∀ {l : List (Int × Int)} {n k : Nat}, endP f l n = some l.length → k < l.length → ∃ o, 1 ≤ o ∧ endP f (l.drop k) o = some (l.drop k).length
  | l, 0, k, h, hk => by rw [endP_zero] at h; injection h with h; omega
  | [], n + 1, k, h, hk => by cases h
  | x :: l, n + 1, 0, h, hk => ⟨n + 1, by omega, by simpa using h⟩
  | x :: l, n + 1, k + 1, h, hk => by
    rw [endP_cons] at h
    obtain ⟨q, hq, e⟩ := Option.map_eq_some_iff.1 h
    simp at e hk; subst e
    simpa using endP_drop hq hk
theorem endP_take {f : Int → Nat} : ∀ {l : List (Int × Int)} {n p : Nat}, endP f l n = some p → endP f (l.take p) n = some p
  | l, 0, p, h => by rw [endP_zero] at h ⊢; exact h
  | [], n + 1, p, h => by cases h
  | x :: l, n + 1, p, h => by
    rw [endP_cons] at h
    obtain ⟨q, hq, rfl⟩ := Option.map_eq_some_iff.1 h
    rw [List.take_succ_cons, endP_cons, endP_take hq]; rfl
/-- the element behind the n terms that begin at k, or -1 -/
def resE (f : Int → Nat) (c : List (Int × Int)) (k n : Nat) : Int := match endP f (c.drop k) n with
  | none => -1
  | some p => ((k + p : Nat) : Int)
theorem resE_zero (f : Int → Nat) (c : List (Int × Int)) (k : Nat) : resE f c k 0 = k := by rw [resE, endP_zero]; rfl
theorem resE_past {f : Int → Nat} {c : List (Int × Int)} {k n : Nat} (h : c.length ≤ k) : resE f c k (n + 1) = -1 := by rw [resE, List.drop_eq_nil_of_le h]; rfl
theorem resE_step {f : Int → Nat} {c : List (Int × Int)} {k n : Nat} {x : Int × Int} (h : c[k]? = some x) : resE f c k (n + 1) = resE f c (k + 1) (n + f x.1) := by
  rw [resE, resE, drop_at h, endP_cons]
  cases endP f (c.drop (k + 1)) (n + f x.1) with
  | none => rfl
  | some p => simp only [Option.map_some]; omega
theorem resE_some {f : Int → Nat} {c : List (Int × Int)} {k n p : Nat} (h : endP f (c.drop k) n = some p) : resE f c k n = ((k + p : Nat) : Int) := by rw [resE, h]

/-! ### Combinator terms -/
def manyC (k : Int) : Nat := if k = 0 then 2 else 0
def okC (x : Int × Int) : Bool := inB x.1 0 4 && inB x.2 0 399 && (decide (x.1 = 4) || decide (x.2 = 0))
def validC (c : List (Int × Int)) : Bool := inB c.length 1 400 && c.all okC && decide (endP manyC c 1 = some c.length)
/-- the reference's loop: the terms that are still open -/
def needC : List (Int × Int) → Nat → Bool
  | [], n => n == 0
  | x :: l, n => n != 0 && okC x && needC l (n - 1 + manyC x.1)
theorem needC_eq : ∀ (l : List (Int × Int)) (n : Nat), needC l n = (l.all okC && decide (endP manyC l n = some l.length))
  | [], 0 => by simp [needC, endP_zero]
  | [], n + 1 => by simp [needC, endP_nil]
  | x :: l, 0 => by simp [needC, endP_zero]
  | x :: l, n + 1 => by
    have h : (endP manyC (x :: l) (n + 1) = some (x :: l).length) ↔ (endP manyC l (n + manyC x.1) = some l.length) := by
      rw [endP_cons, List.length_cons]
      cases endP manyC l (n + manyC x.1) <;> simp
    have h' : decide (endP manyC (x :: l) (n + 1) = some (x :: l).length) = decide (endP manyC l (n + manyC x.1) = some l.length) := decide_eq_decide.2 h
    rw [needC, needC_eq l, List.all_cons, h']
    simp [Bool.and_assoc]
theorem validC_need (c : List (Int × Int)) : validC c = (inB c.length 1 400 && needC c 1) := by rw [validC, needC_eq, Bool.and_assoc]
theorem validC_end {c : List (Int × Int)} (h : validC c = true) : endP manyC c 1 = some c.length ∧ 1 ≤ c.length ∧ c.length ≤ 400 := by
  simp only [validC, Bool.and_eq_true, decide_eq_true_eq] at h
  have := inB_t h.1.1
  exact ⟨h.2, by omega, by omega⟩
/-- how many applications a list begins with -/
def leadC : List (Int × Int) → Nat
  | [] => 0
  | x :: l => if x.1 = 0 then leadC l + 1 else 0
theorem leadC_le : ∀ l : List (Int × Int), leadC l ≤ l.length
  | [] => Nat.le_refl _
  | x :: l => by
    rw [leadC]; split
    · have := leadC_le l; simp; omega
    · simp
theorem leadC_app : ∀ {l : List (Int × Int)} {i : Nat} {x : Int × Int}, l[i]? = some x → i < leadC l → x.1 = 0
  | y :: l, i, x, hx, hi => by
    rw [leadC] at hi
    split at hi
    · rename_i hy
      cases i with
      | zero => simp at hx; subst hx; exact hy
      | succ i => exact leadC_app (l := l) (by simpa using hx) (by omega)
    · omega
theorem leadC_stop : ∀ {l : List (Int × Int)} {x : Int × Int}, l[leadC l]? = some x → x.1 ≠ 0
  | y :: l, x, hx => by
    rw [leadC] at hx
    split at hx
    · rw [List.getElem?_cons_succ] at hx; exact leadC_stop hx
    · rename_i hy
      simp at hx; subst hx; exact hy
/-- a list whose first n + 1 terms end: behind the applications there is an element that is none, and its terms end -/
theorem leadC_end : ∀ {l : List (Int × Int)} {n p : Nat}, endP manyC l (n + 1) = some p → leadC l < l.length ∧ ∃ q, endP manyC (l.drop (leadC l + 1)) (n + leadC l) = some q ∧ p = leadC l + 1 + q
  | x :: l, n, p, h => by
    rw [endP_cons] at h
    obtain ⟨r, hr, rfl⟩ := Option.map_eq_some_iff.1 h
    rw [leadC]
    split
    · rename_i hx
      rw [hx, show manyC 0 = 1 + 1 from rfl, ← Nat.add_assoc] at hr
      obtain ⟨h1, q, h2, h3⟩ := leadC_end hr
      refine ⟨by simp; omega, q, ?_, by omega⟩
      rw [List.drop_succ_cons, show n + (leadC l + 1) = n + 1 + leadC l by omega]; exact h2
    · rename_i hx
      rw [manyC, if_neg hx] at hr
      exact ⟨by simp, r, by simpa using hr, by omega⟩
/-- the number of arguments of the form that a list begins with: 1 for I, 2 for K, 3 for S; 0 if there is none -/
def formC (l : List (Int × Int)) : Nat := match l[leadC l]? with
  | none => 0
  | some x => if x.1 = 3 ∧ leadC l = 1 ∨ x.1 = 2 ∧ leadC l = 2 ∨ x.1 = 1 ∧ leadC l = 3 then leadC l else 0
theorem formC_lead {l : List (Int × Int)} (h : 0 < formC l) : formC l = leadC l ∧ 1 ≤ leadC l ∧ leadC l ≤ 3 := by
  cases hx : l[leadC l]? with
  | none => rw [formC, hx] at h; exact absurd h (by simp)
  | some x =>
    rw [formC, hx] at h ⊢
    simp only at h ⊢
    split at h
    · rename_i hc
      rw [if_pos hc]; omega
    · omega
/-- whether a form of a combinator with so many arguments begins a list -/
def tryF : List (Int × Int) → Int → Nat → Bool
  | [], _, _ => false
  | x :: _, kind, 0 => x.1 == kind
  | x :: l, kind, m + 1 => x.1 == 0 && tryF l kind m
theorem tryF_true {kind : Int} (hk : kind ≠ 0) : ∀ {l : List (Int × Int)} {m : Nat}, tryF l kind m = true → leadC l = m ∧ ∃ x, l[m]? = some x ∧ x.1 = kind
  | [], m, h => by cases h
  | x :: l, 0, h => by
    have h1 : x.1 = kind := by simpa [tryF] using h
    exact ⟨by rw [leadC, if_neg (by rw [h1]; exact hk)], x, rfl, h1⟩
  | x :: l, m + 1, h => by
    simp only [tryF, Bool.and_eq_true, beq_iff_eq] at h
    obtain ⟨h1, y, h2, h3⟩ := tryF_true hk h.2
    exact ⟨by rw [leadC, if_pos h.1, h1], y, by simpa using h2, h3⟩
theorem tryF_of {kind : Int} : ∀ {l : List (Int × Int)} {m : Nat} {x : Int × Int}, leadC l = m → l[m]? = some x → x.1 = kind → tryF l kind m = true
  | y :: l, 0, x, h, hx, hk => by simp at hx; subst hx; simpa [tryF] using hk
  | y :: l, m + 1, x, h, hx, hk => by
    rw [leadC] at h
    split at h
    · rename_i hy
      rw [tryF, tryF_of (by omega) (by simpa using hx) hk]; simp [hy]
    · omega
  | [], 0, x, h, hx, hk => by cases hx
theorem formC_pick {l : List (Int × Int)} (h : 0 < formC l) : formC l = 1 ∧ tryF l 3 1 = true ∨ formC l = 2 ∧ tryF l 2 2 = true ∨ formC l = 3 ∧ tryF l 1 3 = true := by
  have hl := (formC_lead h).1
  cases hx : l[leadC l]? with
  | none => rw [formC, hx] at h; exact absurd h (by simp)
  | some x =>
    have h' := h
    rw [formC, hx] at h'
    simp only at h'
    split at h'
    · rename_i hc
      rcases hc with ⟨e, h1⟩ | ⟨e, h1⟩ | ⟨e, h1⟩
      · exact .inl ⟨by omega, tryF_of h1 (by rw [← h1]; exact hx) e⟩
      · exact .inr (.inl ⟨by omega, tryF_of h1 (by rw [← h1]; exact hx) e⟩)
      · exact .inr (.inr ⟨by omega, tryF_of h1 (by rw [← h1]; exact hx) e⟩)
    · omega
theorem formC_try {l : List (Int × Int)} {kind : Int} {m : Nat} (hk : kind = 3 ∧ m = 1 ∨ kind = 2 ∧ m = 2 ∨ kind = 1 ∧ m = 3) (h : formC l ≠ m) : tryF l kind m = false := by
  cases ht : tryF l kind m with
  | false => rfl
  | true =>
    obtain ⟨h1, x, h2, h3⟩ := tryF_true (by omega) ht
    exact absurd (by rw [formC, h1, h2]; simp only; rw [if_pos (by omega)]) h
/-- the first form: its index -/
def firstC (c : List (Int × Int)) : Nat → Nat → Option Nat
  | 0, _ => none
  | f + 1, k => if 0 < formC (c.drop k) then some k else firstC c f (k + 1)
theorem firstC_some {c : List (Int × Int)} : ∀ {f k i : Nat}, firstC c f k = some i → k ≤ i ∧ i < k + f ∧ 0 < formC (c.drop i)
  | 0, k, i, h => by cases h
  | f + 1, k, i, h => by
    rw [firstC] at h
    split at h
    · injection h with h; subst h; exact ⟨Nat.le_refl _, by omega, by assumption⟩
    · have := firstC_some h; omega
/-- where the term that begins at an index ends; where i terms behind an index end; the terms -/
def endAt (c : List (Int × Int)) (k : Nat) : Nat := k + (endP manyC (c.drop k) 1).getD 0
def endI (c : List (Int × Int)) (a : Nat) : Nat → Nat
  | 0 => a
  | i + 1 => endAt c (endI c a i)
theorem endI_succ (c : List (Int × Int)) (a : Nat) : ∀ i, endI c a (i + 1) = endI c (endAt c a) i
  | 0 => rfl
  | i + 1 => by
    show endAt c (endI c a (i + 1)) = endAt c (endI c (endAt c a) i)
    rw [endI_succ c a i]
theorem endI_ok {c : List (Int × Int)} : ∀ {m a q i : Nat}, endP manyC (c.drop a) m = some q → i < m → ∃ p, endP manyC (c.drop (endI c a i)) 1 = some p ∧ endI c a i + p = endI c a (i + 1) ∧ 1 ≤ p
  | 0, a, q, i, h, hi => absurd hi (by omega)
  | m + 1, a, q, i, h, hi => by
    rw [Nat.add_comm m 1] at h
    obtain ⟨p, q', h1, h2, rfl⟩ := endP_add h
    have he : endAt c a = a + p := by rw [endAt, h1]; rfl
    cases i with
    | zero => exact ⟨p, h1, he.symm, endP_pos h1⟩
    | succ i =>
      rw [List.drop_drop] at h2
      have := endI_ok (a := endAt c a) (i := i) (by rw [he]; exact h2) (by omega)
      rw [endI_succ c a i, endI_succ c a (i + 1)]; exact this
theorem endI_all {c : List (Int × Int)} : ∀ {m a q : Nat}, endP manyC (c.drop a) m = some q → endI c a m = a + q
  | 0, a, q, h => by rw [endP_zero] at h; injection h with h; subst h; rfl
  | m + 1, a, q, h => by
    rw [Nat.add_comm m 1] at h
    obtain ⟨p, q', h1, h2, rfl⟩ := endP_add h
    rw [List.drop_drop] at h2
    have he : endAt c a = a + p := by rw [endAt, h1]; rfl
    rw [endI_succ, endI_all (a := endAt c a) (by rw [he]; exact h2), he]; omega
theorem endI_mono {c : List (Int × Int)} {a : Nat} : ∀ {i j : Nat}, i ≤ j → endI c a i ≤ endI c a j
  | i, 0, h => by rw [Nat.le_zero.1 h]; exact Nat.le_refl _
  | i, j + 1, h => by
    rcases Nat.lt_or_ge i (j + 1) with h1 | h1
    · exact Nat.le_trans (endI_mono (Nat.le_of_lt_succ h1)) (by show endI c a j ≤ endAt c (endI c a j); unfold endAt; omega)
    · rw [show i = j + 1 by omega]; exact Nat.le_refl _
def argI (c : List (Int × Int)) (a i : Nat) : List (Int × Int) := (c.drop (endI c a i)).take (endI c a (i + 1) - endI c a i)
/-- what a form becomes that begins at an index; where it ends; what the term becomes: nothing is checked -/
def byC (c : List (Int × Int)) (k n : Nat) : List (Int × Int) :=
  if n < 3 then argI c (k + n + 1) 0
  else [(0, 0), (0, 0)] ++ argI c (k + n + 1) 0 ++ argI c (k + n + 1) 2 ++ [(0, 0)] ++ argI c (k + n + 1) 1 ++ argI c (k + n + 1) 2
def stepC (c : List (Int × Int)) (k : Nat) : List (Int × Int) :=
  c.take k ++ byC c k (formC (c.drop k)) ++ c.drop (endI c (k + formC (c.drop k) + 1) (formC (c.drop k)))
/-- a form in a valid term: its arguments end -/
theorem form_args {c : List (Int × Int)} {k : Nat} (h : endP manyC c 1 = some c.length) (hk : k < c.length) : leadC (c.drop k) < c.length - k ∧ ∃ q, endP manyC (c.drop (k + leadC (c.drop k) + 1)) (leadC (c.drop k)) = some q ∧ k + leadC (c.drop k) + 1 + q ≤ c.length := by
  obtain ⟨o, ho, h1⟩ := endP_drop h hk
  rw [show o = 1 + (o - 1) by omega] at h1
  obtain ⟨p, r, h2, _, _⟩ := endP_add h1
  obtain ⟨h3, q, h4, h5⟩ := leadC_end (n := 0) h2
  rw [Nat.zero_add, List.drop_drop] at h4
  rw [List.length_drop] at h3
  have h6 := (endP_le h2).1
  rw [List.length_drop] at h6
  exact ⟨h3, q, h4, by omega⟩
theorem argI_len {c : List (Int × Int)} {a i : Nat} : (argI c a i).length ≤ c.length := by rw [argI, List.length_take, List.length_drop]; omega
theorem byC_len {c : List (Int × Int)} {k n : Nat} : (byC c k n).length ≤ 4 * c.length + 3 := by
  unfold byC
  split
  · have := argI_len (c := c) (a := k + n + 1) (i := 0); omega
  · have h0 := argI_len (c := c) (a := k + n + 1) (i := 0)
    have h1 := argI_len (c := c) (a := k + n + 1) (i := 1)
    have h2 := argI_len (c := c) (a := k + n + 1) (i := 2)
    simp only [List.length_append, List.length_cons, List.length_nil]; omega
theorem stepC_len {c : List (Int × Int)} {k : Nat} : (stepC c k).length ≤ 6 * c.length + 3 := by
  have := byC_len (c := c) (k := k) (n := formC (c.drop k))
  simp only [stepC, List.length_append, List.length_take, List.length_drop]; omega
/-- the run: the term, the steps, whether it is normal; none: a term is not valid -/
def runC : Nat → List (Int × Int) → Nat → Option (List (Int × Int) × Nat × Bool)
  | 0, c, n => match firstC c c.length 0 with
    | none => some (c, n, true)
    | some _ => some (c, n, false)
  | b + 1, c, n => match firstC c c.length 0 with
    | none => some (c, n, true)
    | some k => if validC (stepC c k) then runC b (stepC c k) (n + 1) else none
def runK (b : Nat) (c : List (Int × Int)) (n : Nat) : Option Nat → Option (List (Int × Int) × Nat × Bool)
  | none => some (c, n, true)
  | some k => if b = 0 then some (c, n, false) else if validC (stepC c k) then runC (b - 1) (stepC c k) (n + 1) else none
theorem runC_eq (b : Nat) (c : List (Int × Int)) (n : Nat) : runC b c n = runK b c n (firstC c c.length 0) := by
  cases b with
  | zero => rw [runC]; cases firstC c c.length 0 <;> rfl
  | succ b => rw [runC]; cases firstC c c.length 0 <;> simp [runK]
theorem runC_valid : ∀ {b : Nat} {c : List (Int × Int)} {n : Nat} {t : List (Int × Int)} {s : Nat} {q : Bool}, validC c = true → runC b c n = some (t, s, q) → validC t = true ∧ n ≤ s ∧ s ≤ n + b
  | 0, c, n, t, s, q, hv, h => by
    rw [runC_eq] at h
    cases hf : firstC c c.length 0 with
    | none => rw [hf] at h; simp [runK] at h; obtain ⟨rfl, rfl, _⟩ := h; exact ⟨hv, by omega, by omega⟩
    | some k => rw [hf] at h; simp [runK] at h; obtain ⟨rfl, rfl, _⟩ := h; exact ⟨hv, by omega, by omega⟩
  | b + 1, c, n, t, s, q, hv, h => by
    rw [runC_eq] at h
    cases hf : firstC c c.length 0 with
    | none => rw [hf] at h; simp [runK] at h; obtain ⟨rfl, rfl, _⟩ := h; exact ⟨hv, by omega, by omega⟩
    | some k =>
      rw [hf] at h
      simp only [runK, Nat.add_sub_cancel] at h
      rw [if_neg (by omega)] at h
      split at h
      · rename_i hs
        have := runC_valid hs h
        exact ⟨this.1, by omega, by omega⟩
      · cases h
def rcX : Option (List (Int × Int) × Nat × Bool) → List (Int × Int) × Int × Bool × Int
  | none => ([], 0, false, 5)
  | some (t, n, b) => (t, n, b, 0)
/-- the answer: the term, the steps, whether it is normal, the code -/
def rcR (c : List (Int × Int)) (budget : Int) : List (Int × Int) × Int × Bool × Int :=
  if validC c = false then ([], 0, false, 1)
  else if inB budget 1 20000 = false then ([], 0, false, 2)
  else rcX (runC budget.toNat c 0)
end Go.Proofs.YtebjpmmgdkepjaaGreatDoor
/-
  Lambda terms in prefix notation in plain Lean: pairs (kind, index). Nothing of the program.
-/
namespace Go.Proofs.YtebjpmmgdkepjaaGreatDoor
open Go.RowKit

def manyL (k : Int) : Nat := if k = 1 then 1 else if k = 2 then 2 else 0
def okL (x : Int × Int) : Bool := inB x.1 0 2 && (if x.1 = 0 then inB x.2 0 399 else decide (x.2 = 0))
def validL (c : List (Int × Int)) : Bool := inB c.length 1 400 && c.all okL && decide (endP manyL c 1 = some c.length)
/-- the reference's loop: the terms that are still open -/
def needL : List (Int × Int) → Nat → Bool
  | [], n => n == 0
  | x :: l, n => n != 0 && okL x && needL l (n - 1 + manyL x.1)
theorem needL_eq : ∀ (l : List (Int × Int)) (n : Nat), needL l n = (l.all okL && decide (endP manyL l n = some l.length))
  | [], 0 => by simp [needL, endP_zero]
  | [], n + 1 => by simp [needL, endP_nil]
  | x :: l, 0 => by simp [needL, endP_zero]
  | x :: l, n + 1 => by
    have h : (endP manyL (x :: l) (n + 1) = some (x :: l).length) ↔ (endP manyL l (n + manyL x.1) = some l.length) := by
      rw [endP_cons, List.length_cons]
      cases endP manyL l (n + manyL x.1) <;> simp
    have h' : decide (endP manyL (x :: l) (n + 1) = some (x :: l).length) = decide (endP manyL l (n + manyL x.1) = some l.length) := decide_eq_decide.2 h
    rw [needL, needL_eq l, List.all_cons, h']
    simp [Bool.and_assoc]
theorem validL_need (c : List (Int × Int)) : validL c = (inB c.length 1 400 && needL c 1) := by rw [validL, needL_eq, Bool.and_assoc]
theorem validL_end {c : List (Int × Int)} (h : validL c = true) : endP manyL c 1 = some c.length ∧ 1 ≤ c.length ∧ c.length ≤ 400 := by
  simp only [validL, Bool.and_eq_true, decide_eq_true_eq] at h
  have := inB_t h.1.1
  exact ⟨h.2, by omega, by omega⟩
theorem validL_ok {c : List (Int × Int)} (h : validL c = true) : ∀ x ∈ c, okL x = true := by
  simp only [validL, Bool.and_eq_true] at h
  exact List.all_eq_true.1 h.1.2
theorem okL_cases {x : Int × Int} (h : okL x = true) : (x.1 = 0 ∧ 0 ≤ x.2 ∧ x.2 ≤ 399) ∨ (x.1 = 1 ∧ x.2 = 0) ∨ (x.1 = 2 ∧ x.2 = 0) := by
  simp only [okL, Bool.and_eq_true] at h
  have h1 := inB_t h.1
  have h2 := h.2
  split at h2
  · have := inB_t h2; omega
  · have : x.2 = 0 := by simpa using h2
    omega
theorem manyL_le (k : Int) : manyL k ≤ 2 := by unfold manyL; split <;> (try split) <;> omega
/-- the depths that wait behind an element -/
def pushL (k : Int) (d : Nat) (st : List Nat) : List Nat := if k = 1 then (d + 1) :: st else if k = 2 then d :: d :: st else st
theorem pushL_len (k : Int) (d : Nat) (st : List Nat) : (pushL k d st).length = st.length + manyL k := by
  unfold pushL manyL; split
  · simp
  · split <;> simp
theorem pushL_app (k : Int) (d : Nat) (ds st : List Nat) : pushL k d (ds ++ st) = pushL k d ds ++ st := by unfold pushL; split <;> (try split) <;> rfl
theorem pushL_le {k : Int} {d M : Nat} {st : List Nat} (hd : d ≤ M) (h : ∀ x ∈ st, x ≤ M + 1) : ∀ x ∈ pushL k d st, x ≤ M + 1 := by
  intro x hx
  unfold pushL at hx
  split at hx
  · rcases List.mem_cons.1 hx with rfl | hx
    · omega
    · exact h x hx
  · split at hx
    · simp only [List.mem_cons] at hx
      rcases hx with rfl | rfl | hx
      · omega
      · omega
      · exact h x hx
    · exact h x hx
/-- the depths of the elements, and what becomes of a term whose variables are replaced -/
def depL : List (Int × Int) → List Nat → List Nat
  | [], _ => []
  | _ :: _, [] => []
  | x :: l, d :: st => d :: depL l (pushL x.1 d st)
def mapL (F : Int × Int → Nat → List (Int × Int)) : List (Int × Int) → List Nat → List (Int × Int)
  | [], _ => []
  | _ :: _, [] => []
  | x :: l, d :: st => (if x.1 = 0 then F x d else [x]) ++ mapL F l (pushL x.1 d st)
theorem mapL_flat (F : Int × Int → Nat → List (Int × Int)) : ∀ (l : List (Int × Int)) (st : List Nat), mapL F l st = (l.zip (depL l st)).flatMap fun y => if y.1.1 = 0 then F y.1 y.2 else [y.1]
  | [], _ => rfl
  | _ :: _, [] => by simp [mapL, depL]
  | x :: l, d :: st => by rw [mapL, depL, List.zip_cons_cons, List.flatMap_cons, mapL_flat F l]
theorem depL_len : ∀ {l : List (Int × Int)} {st : List Nat}, endP manyL l st.length = some l.length → (depL l st).length = l.length
  | [], _, _ => by simp [depL]
  | x :: l, [], h => by rw [List.length_nil, endP_zero] at h; simp at h
  | x :: l, d :: st, h => by
    rw [List.length_cons, endP_cons] at h
    obtain ⟨q, hq, e⟩ := Option.map_eq_some_iff.1 h
    simp at e; subst e
    rw [depL, List.length_cons, List.length_cons, depL_len (by rw [pushL_len]; exact hq)]
theorem depL_le : ∀ {l : List (Int × Int)} {st : List Nat} {M : Nat}, (∀ x ∈ st, x ≤ M) → ∀ d ∈ depL l st, d ≤ M + l.length
  | [], _, _, _, d, hd => by simp [depL] at hd
  | _ :: _, [], _, _, d, hd => by simp [depL] at hd
  | x :: l, e :: st, M, h, d, hd => by
    have he := h e (by simp)
    rw [depL] at hd
    rcases List.mem_cons.1 hd with rfl | hd
    · omega
    · have := depL_le (M := M + 1) (pushL_le he fun y hy => by have := h y (by simp [hy]); omega) d hd
      simp; omega
theorem mapL_app {F : Int × Int → Nat → List (Int × Int)} : ∀ {a b : List (Int × Int)} {ds st : List Nat}, endP manyL a ds.length = some a.length → mapL F (a ++ b) (ds ++ st) = mapL F a ds ++ mapL F b st
  | [], b, [], st, _ => by simp [mapL]
  | [], b, d :: ds, st, h => by rw [List.length_cons, endP_nil] at h; cases h
  | x :: l, b, [], st, h => by rw [List.length_nil, endP_zero] at h; simp at h
  | x :: l, b, d :: ds, st, h => by
    rw [List.length_cons, endP_cons] at h
    obtain ⟨q, hq, e⟩ := Option.map_eq_some_iff.1 h
    simp at e; subst e
    rw [List.cons_append, List.cons_append, mapL, mapL, pushL_app, mapL_app (by rw [pushL_len]; exact hq), List.append_assoc]
theorem mapL_len {F : Int × Int → Nat → List (Int × Int)} {M : Nat} (hM : 1 ≤ M) (hF : ∀ x d, (F x d).length ≤ M) : ∀ (l : List (Int × Int)) (st : List Nat), (mapL F l st).length ≤ l.length * M
  | [], _ => by simp [mapL]
  | _ :: _, [] => by simp [mapL]
  | x :: l, d :: st => by
    have h1 := mapL_len hM hF l (pushL x.1 d st)
    have h2 : (if x.1 = 0 then F x d else [x]).length ≤ M := by
      split
      · exact hF x d
      · simp; omega
    rw [mapL, List.length_append, List.length_cons, Nat.succ_mul]; omega
/-- shifting the free variables -/
def shE (by_ : Nat) (x : Int × Int) (d : Nat) : Int × Int := if x.1 = 0 ∧ (d : Int) ≤ x.2 then (x.1, x.2 + by_) else x
def shiftL (by_ : Nat) (l : List (Int × Int)) : List (Int × Int) := mapL (fun x d => [shE by_ x d]) l [0]
theorem mapL_zip (G : Int × Int → Nat → Int × Int) (hG : ∀ x d, x.1 ≠ 0 → G x d = x) : ∀ (l : List (Int × Int)) (st : List Nat), mapL (fun x d => [G x d]) l st = List.zipWith G l (depL l st)
  | [], _ => rfl
  | _ :: _, [] => by simp [mapL, depL]
  | x :: l, d :: st => by
    rw [mapL, depL, List.zipWith_cons_cons, mapL_zip G hG l]
    split
    · rfl
    · rename_i h; rw [hG x d h]; rfl
theorem shE_ne {b : Nat} {x : Int × Int} {d : Nat} (h : x.1 ≠ 0) : shE b x d = x := by rw [shE, if_neg (fun e => h e.1)]
theorem shiftL_zip (b : Nat) (l : List (Int × Int)) : shiftL b l = List.zipWith (shE b) l (depL l [0]) := mapL_zip _ (fun _ _ h => shE_ne h) l [0]
theorem shiftL_len (b : Nat) (l : List (Int × Int)) : (shiftL b l).length ≤ l.length := by rw [shiftL_zip, List.length_zipWith]; omega
/-- the body of an abstraction with an argument in place of its variable -/
def opF (a : List (Int × Int)) (x : Int × Int) (d : Nat) : List (Int × Int) := if x.2 = d then shiftL d a else [if (d : Int) < x.2 then (x.1, x.2 - 1) else x]
def openL (a b : List (Int × Int)) : List (Int × Int) := mapL (opF a) b [0]
theorem opF_len (a : List (Int × Int)) (x : Int × Int) (d : Nat) : (opF a x d).length ≤ a.length + 1 := by
  unfold opF
  split
  · have := shiftL_len d a; omega
  · simp
theorem openL_len (a b : List (Int × Int)) : (openL a b).length ≤ b.length * (a.length + 1) := mapL_len (by omega) (opF_len a) b [0]
/-- the first redex -/
def redB : List (Int × Int) → Bool
  | x :: y :: _ => decide (x.1 = 2) && decide (y.1 = 1)
  | _ => false
def redL (c : List (Int × Int)) : Nat → Nat → Option Nat
  | 0, _ => none
  | f + 1, k => if redB (c.drop k) = true then some k else redL c f (k + 1)
theorem redL_some {c : List (Int × Int)} : ∀ {f k i : Nat}, redL c f k = some i → k ≤ i ∧ i < k + f ∧ redB (c.drop i) = true
  | 0, k, i, h => by cases h
  | f + 1, k, i, h => by
    rw [redL] at h
    split at h
    · injection h with h; subst h; exact ⟨Nat.le_refl _, by omega, by assumption⟩
    · obtain ⟨h1, h2, h3⟩ := redL_some h; exact ⟨by omega, by omega, h3⟩
theorem redB_at {c : List (Int × Int)} {k : Nat} {x y : Int × Int} (hx : c[k]? = some x) (hy : c[k + 1]? = some y) : redB (c.drop k) = (decide (x.1 = 2) && decide (y.1 = 1)) := by
  rw [drop_at hx, drop_at hy]; rfl
theorem redB_last {c : List (Int × Int)} {k : Nat} (h : c.length ≤ k + 1) : redB (c.drop k) = false := by
  have : (c.drop k).length ≤ 1 := by rw [List.length_drop]; omega
  match c.drop k, this with
  | [], _ => rfl
  | [x], _ => rfl
  | x :: y :: l, h => simp at h
theorem redB_true {c : List (Int × Int)} {k : Nat} (h : redB (c.drop k) = true) : ∃ x y, c[k]? = some x ∧ c[k + 1]? = some y ∧ x.1 = 2 ∧ y.1 = 1 := by
  have h0 : ∀ l : List (Int × Int), c.drop k = l → redB l = true → ∃ x y, c[k]? = some x ∧ c[k + 1]? = some y ∧ x.1 = 2 ∧ y.1 = 1 := by
    intro l hl hr
    match l, hr with
    | x :: y :: l, hr =>
      simp only [redB, Bool.and_eq_true, decide_eq_true_eq] at hr
      have e0 : (c.drop k)[0]? = some x := by rw [hl]; rfl
      have e1 : (c.drop k)[1]? = some y := by rw [hl]; rfl
      rw [List.getElem?_drop] at e0 e1
      exact ⟨x, y, e0, e1, hr.1, hr.2⟩
  exact h0 _ rfl h
/-- where the term that begins at an index ends -/
def endL (c : List (Int × Int)) (k : Nat) : Nat := k + (endP manyL (c.drop k) 1).getD 0
def bodyL (c : List (Int × Int)) (k : Nat) : List (Int × Int) := (c.drop (k + 2)).take (endL c (k + 1) - (k + 2))
def argL (c : List (Int × Int)) (k : Nat) : List (Int × Int) := (c.drop (endL c (k + 1))).take (endL c (endL c (k + 1)) - endL c (k + 1))
def stepL (c : List (Int × Int)) (k : Nat) : List (Int × Int) := c.take k ++ (openL (argL c k) (bodyL c k) ++ c.drop (endL c (endL c (k + 1))))
theorem stepL_len {c : List (Int × Int)} {k : Nat} (hc : c.length ≤ 400) : (stepL c k).length ≤ 200000 := by
  have h1 := openL_len (argL c k) (bodyL c k)
  have h2 : (argL c k).length ≤ 400 := by rw [argL, List.length_take, List.length_drop]; omega
  have h3 : (bodyL c k).length ≤ 400 := by rw [bodyL, List.length_take, List.length_drop]; omega
  have h4 : (bodyL c k).length * ((argL c k).length + 1) ≤ 400 * 401 := Nat.mul_le_mul h3 (by omega)
  simp only [stepL, List.length_append, List.length_take, List.length_drop]; omega
/-- a redex in a term: its body and its argument are terms -/
theorem red_parts {c : List (Int × Int)} {k : Nat} (h : endP manyL c 1 = some c.length) (hr : redB (c.drop k) = true) :
    ∃ p q, endP manyL (c.drop (k + 2)) 1 = some p ∧ endL c (k + 1) = k + 2 + p ∧ endP manyL (c.drop (k + 1)) 1 = some (p + 1) ∧ endP manyL (c.drop (k + 2 + p)) 1 = some q ∧ endL c (k + 2 + p) = k + 2 + p + q ∧ k + 2 + p + q ≤ c.length ∧ 1 ≤ p ∧ 1 ≤ q := by
  obtain ⟨x, y, hx, hy, hx2, hy1⟩ := redB_true hr
  obtain ⟨hk, _⟩ := List.getElem?_eq_some_iff.1 hx
  obtain ⟨o, ho, h1⟩ := endP_drop h hk
  rw [show o = 1 + (o - 1) by omega] at h1
  obtain ⟨r, s, h2, _, hrs⟩ := endP_add h1
  have hle := (endP_le h2).1
  rw [List.length_drop] at hle
  rw [drop_at hx, show (1 : Nat) = 0 + 1 from rfl, endP_cons, hx2, show 0 + manyL 2 = 1 + 1 from rfl] at h2
  obtain ⟨t, h3, rfl⟩ := Option.map_eq_some_iff.1 h2
  obtain ⟨p1, q, h4, h5, rfl⟩ := endP_add h3
  have h4' := h4
  rw [drop_at hy, show (1 : Nat) = 0 + 1 from rfl, endP_cons, hy1, show 0 + manyL 1 = 0 + 1 from rfl] at h4
  obtain ⟨p, h6, rfl⟩ := Option.map_eq_some_iff.1 h4
  have e1 : endL c (k + 1) = k + 2 + p := by rw [endL, h4']; simp; omega
  rw [List.drop_drop, show k + 1 + (p + 1) = k + 2 + p by omega] at h5
  exact ⟨p, q, h6, e1, h4', h5, by rw [endL, h5]; rfl, by omega, endP_pos h6, endP_pos h5⟩
/-- the run: the term, the steps, whether it is normal; none: a term is not valid -/
def runL : Nat → List (Int × Int) → Nat → Option (List (Int × Int) × Nat × Bool)
  | 0, c, n => match redL c c.length 0 with
    | none => some (c, n, true)
    | some _ => some (c, n, false)
  | b + 1, c, n => match redL c c.length 0 with
    | none => some (c, n, true)
    | some k => if validL (stepL c k) then runL b (stepL c k) (n + 1) else none
def runKL (b : Nat) (c : List (Int × Int)) (n : Nat) : Option Nat → Option (List (Int × Int) × Nat × Bool)
  | none => some (c, n, true)
  | some k => if b = 0 then some (c, n, false) else if validL (stepL c k) then runL (b - 1) (stepL c k) (n + 1) else none
theorem runL_eq (b : Nat) (c : List (Int × Int)) (n : Nat) : runL b c n = runKL b c n (redL c c.length 0) := by
  cases b with
  | zero => rw [runL]; cases redL c c.length 0 <;> rfl
  | succ b => rw [runL]; cases redL c c.length 0 <;> simp [runKL]
theorem runL_valid : ∀ {b : Nat} {c : List (Int × Int)} {n : Nat} {t : List (Int × Int)} {s : Nat} {q : Bool}, validL c = true → runL b c n = some (t, s, q) → validL t = true ∧ n ≤ s ∧ s ≤ n + b
  | 0, c, n, t, s, q, hv, h => by
    rw [runL_eq] at h
    cases hf : redL c c.length 0 with
    | none => rw [hf] at h; simp [runKL] at h; obtain ⟨rfl, rfl, _⟩ := h; exact ⟨hv, by omega, by omega⟩
    | some k => rw [hf] at h; simp [runKL] at h; obtain ⟨rfl, rfl, _⟩ := h; exact ⟨hv, by omega, by omega⟩
  | b + 1, c, n, t, s, q, hv, h => by
    rw [runL_eq] at h
    cases hf : redL c c.length 0 with
    | none => rw [hf] at h; simp [runKL] at h; obtain ⟨rfl, rfl, _⟩ := h; exact ⟨hv, by omega, by omega⟩
    | some k =>
      rw [hf] at h
      simp only [runKL, Nat.add_sub_cancel] at h
      rw [if_neg (by omega)] at h
      split at h
      · rename_i hs
        have := runL_valid hs h
        exact ⟨this.1, by omega, by omega⟩
      · cases h
/-- the answer: the term, the steps, whether it is normal, the code -/
def rcL (c : List (Int × Int)) (budget : Int) : List (Int × Int) × Int × Bool × Int :=
  if validL c = false then ([], 0, false, 1)
  else if inB budget 1 20000 = false then ([], 0, false, 2)
  else rcX (runL budget.toNat c 0)
end Go.Proofs.YtebjpmmgdkepjaaGreatDoor
