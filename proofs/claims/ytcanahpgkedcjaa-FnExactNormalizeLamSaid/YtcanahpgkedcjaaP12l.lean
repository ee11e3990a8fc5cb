/-
  Lambda terms in prefix notation in plain Lean: pairs (kind, index). Nothing of the program.
-/
import Derived.Test.YtcanahpgkedcjaaP12c
namespace Go.Proofs.Ytcanahpgkedcjaa
open Go.RowKit

def manyL (k : Int) : Nat := if k = 1 then 1 else if k = 2 then 2 else 0
def okL (x : Int × Int) : Bool := inB x.1 0 2 && (if x.1 = 0 then inB x.2 0 399 else decide (x.2 = 0))
def validL (c : List (Int × Int)) : Bool := inB c.length 1 400 && c.all okL && decide (endP manyL c 1 = some c.length)
/-- the reference's loop: the terms that are still open -/
def needL : List (Int × Int) → Nat → Bool
  | [], n => n == 0
  | x :: l, n => n != 0 && okL x && needL l (n - 1 + manyL x.1)
theorem needL_eq : ∀ (l : List (Int × Int)) (n : Nat), needL l n = (l.all okL && decide (endP manyL l n = some l.length))
  | [], 0 => by simp [needL, endP_zero]
  | [], n + 1 => by simp [needL, endP_nil]
  | x :: l, 0 => by simp [needL, endP_zero]
  | x :: l, n + 1 => by
    have h : (endP manyL (x :: l) (n + 1) = some (x :: l).length) ↔ (endP manyL l (n + manyL x.1) = some l.length) := by
      rw [endP_cons, List.length_cons]
      cases endP manyL l (n + manyL x.1) <;> simp
    have h' : decide (endP manyL (x :: l) (n + 1) = some (x :: l).length) = decide (endP manyL l (n + manyL x.1) = some l.length) := decide_eq_decide.2 h
    rw [needL, needL_eq l, List.all_cons, h']
    simp [Bool.and_assoc]
theorem validL_need (c : List (Int × Int)) : validL c = (inB c.length 1 400 && needL c 1) := by rw [validL, needL_eq, Bool.and_assoc]
theorem validL_end {c : List (Int × Int)} (h : validL c = true) : endP manyL c 1 = some c.length ∧ 1 ≤ c.length ∧ c.length ≤ 400 := by
  simp only [validL, Bool.and_eq_true, decide_eq_true_eq] at h
  have := inB_t h.1.1
  exact ⟨h.2, by omega, by omega⟩
theorem validL_ok {c : List (Int × Int)} (h : validL c = true) : ∀ x ∈ c, okL x = true := by
  simp only [validL, Bool.and_eq_true] at h
  exact List.all_eq_true.1 h.1.2
theorem okL_cases {x : Int × Int} (h : okL x = true) : (x.1 = 0 ∧ 0 ≤ x.2 ∧ x.2 ≤ 399) ∨ (x.1 = 1 ∧ x.2 = 0) ∨ (x.1 = 2 ∧ x.2 = 0) := by
  simp only [okL, Bool.and_eq_true] at h
  have h1 := inB_t h.1
  have h2 := h.2
  split at h2
  · have := inB_t h2; omega
  · have : x.2 = 0 := by simpa using h2
    omega
theorem manyL_le (k : Int) : manyL k ≤ 2 := by unfold manyL; split <;> (try split) <;> omega
/-- the depths that wait behind an element -/
def pushL (k : Int) (d : Nat) (st : List Nat) : List Nat := if k = 1 then (d + 1) :: st else if k = 2 then d :: d :: st else st
theorem pushL_len (k : Int) (d : Nat) (st : List Nat) : (pushL k d st).length = st.length + manyL k := by
  unfold pushL manyL; split
  · simp
  · split <;> simp
theorem pushL_app (k : Int) (d : Nat) (ds st : List Nat) : pushL k d (ds ++ st) = pushL k d ds ++ st := by unfold pushL; split <;> (try split) <;> rfl
theorem pushL_le {k : Int} {d M : Nat} {st : List Nat} (hd : d ≤ M) (h : ∀ x ∈ st, x ≤ M + 1) : ∀ x ∈ pushL k d st, x ≤ M + 1 := by
  intro x hx
  unfold pushL at hx
  split at hx
  · rcases List.mem_cons.1 hx with rfl | hx
    · omega
    · exact h x hx
  · split at hx
    · simp only [List.mem_cons] at hx
      rcases hx with rfl | rfl | hx
      · omega
      · omega
      · exact h x hx
    · exact h x hx
/-- the depths of the elements, and what becomes of a term whose variables are replaced -/
def depL : List (Int × Int) → List Nat → List Nat
  | [], _ => []
  | _ :: _, [] => []
  | x :: l, d :: st => d :: depL l (pushL x.1 d st)
def mapL (F : Int × Int → Nat → List (Int × Int)) : List (Int × Int) → List Nat → List (Int × Int)
  | [], _ => []
  | _ :: _, [] => []
  | x :: l, d :: st => (if x.1 = 0 then F x d else [x]) ++ mapL F l (pushL x.1 d st)
theorem mapL_flat (F : Int × Int → Nat → List (Int × Int)) : ∀ (l : List (Int × Int)) (st : List Nat), mapL F l st = (l.zip (depL l st)).flatMap fun y => if y.1.1 = 0 then F y.1 y.2 else [y.1]
  | [], _ => rfl
  | _ :: _, [] => by simp [mapL, depL]
  | x :: l, d :: st => by rw [mapL, depL, List.zip_cons_cons, List.flatMap_cons, mapL_flat F l]
theorem depL_len : ∀ {l : List (Int × Int)} {st : List Nat}, endP manyL l st.length = some l.length → (depL l st).length = l.length
  | [], _, _ => by simp [depL]
  | x :: l, [], h => by rw [List.length_nil, endP_zero] at h; simp at h
  | x :: l, d :: st, h => by
    rw [List.length_cons, endP_cons] at h
    obtain ⟨q, hq, e⟩ := Option.map_eq_some_iff.1 h
    simp at e; subst e
    rw [depL, List.length_cons, List.length_cons, depL_len (by rw [pushL_len]; exact hq)]
theorem depL_le : ∀ {l : List (Int × Int)} {st : List Nat} {M : Nat}, (∀ x ∈ st, x ≤ M) → ∀ d ∈ depL l st, d ≤ M + l.length
  | [], _, _, _, d, hd => by simp [depL] at hd
  | _ :: _, [], _, _, d, hd => by simp [depL] at hd
  | x :: l, e :: st, M, h, d, hd => by
    have he := h e (by simp)
    rw [depL] at hd
    rcases List.mem_cons.1 hd with rfl | hd
    · omega
    · have := depL_le (M := M + 1) (pushL_le he fun y hy => by have := h y (by simp [hy]); omega) d hd
      simp; omega
theorem mapL_app {F : Int × Int → Nat → List (Int × Int)} : ∀ {a b : List (Int × Int)} {ds st : List Nat}, endP manyL a ds.length = some a.length → mapL F (a ++ b) (ds ++ st) = mapL F a ds ++ mapL F b st
  | [], b, [], st, _ => by simp [mapL]
  | [], b, d :: ds, st, h => by rw [List.length_cons, endP_nil] at h; cases h
  | x :: l, b, [], st, h => by rw [List.length_nil, endP_zero] at h; simp at h
  | x :: l, b, d :: ds, st, h => by
    rw [List.length_cons, endP_cons] at h
    obtain ⟨q, hq, e⟩ := Option.map_eq_some_iff.1 h
    simp at e; subst e
    rw [List.cons_append, List.cons_append, mapL, mapL, pushL_app, mapL_app (by rw [pushL_len]; exact hq), List.append_assoc]
theorem mapL_len {F : Int × Int → Nat → List (Int × Int)} {M : Nat} (hM : 1 ≤ M) (hF : ∀ x d, (F x d).length ≤ M) : ∀ (l : List (Int × Int)) (st : List Nat), (mapL F l st).length ≤ l.length * M
  | [], _ => by simp [mapL]
  | _ :: _, [] => by simp [mapL]
  | x :: l, d :: st => by
    have h1 := mapL_len hM hF l (pushL x.1 d st)
    have h2 : (if x.1 = 0 then F x d else [x]).length ≤ M := by
      split
      · exact hF x d
      · simp; omega
    rw [mapL, List.length_append, List.length_cons, Nat.succ_mul]; omega
/-- shifting the free variables -/
def shE (by_ : Nat) (x : Int × Int) (d : Nat) : Int × Int := if x.1 = 0 ∧ (d : Int) ≤ x.2 then (x.1, x.2 + by_) else x
def shiftL (by_ : Nat) (l : List (Int × Int)) : List (Int × Int) := mapL (fun x d => [shE by_ x d]) l [0]
theorem mapL_zip (G : Int × Int → Nat → Int × Int) (hG : ∀ x d, x.1 ≠ 0 → G x d = x) : ∀ (l : List (Int × Int)) (st : List Nat), mapL (fun x d => [G x d]) l st = List.zipWith G l (depL l st)
  | [], _ => rfl
  | _ :: _, [] => by simp [mapL, depL]
  | x :: l, d :: st => by
    rw [mapL, depL, List.zipWith_cons_cons, mapL_zip G hG l]
    split
    · rfl
    · rename_i h; rw [hG x d h]; rfl
theorem shE_ne {b : Nat} {x : Int × Int} {d : Nat} (h : x.1 ≠ 0) : shE b x d = x := by rw [shE, if_neg (fun e => h e.1)]
theorem shiftL_zip (b : Nat) (l : List (Int × Int)) : shiftL b l = List.zipWith (shE b) l (depL l [0]) := mapL_zip _ (fun _ _ h => shE_ne h) l [0]
theorem shiftL_len (b : Nat) (l : List (Int × Int)) : (shiftL b l).length ≤ l.length := by rw [shiftL_zip, List.length_zipWith]; omega
/-- the body of an abstraction with an argument in place of its variable -/
def opF (a : List (Int × Int)) (x : Int × Int) (d : Nat) : List (Int × Int) := if x.2 = d then shiftL d a else [if (d : Int) < x.2 then (x.1, x.2 - 1) else x]
def openL (a b : List (Int × Int)) : List (Int × Int) := mapL (opF a) b [0]
theorem opF_len (a : List (Int × Int)) (x : Int × Int) (d : Nat) : (opF a x d).length ≤ a.length + 1 := by
  unfold opF
  split
  · have := shiftL_len d a; omega
  · simp
theorem openL_len (a b : List (Int × Int)) : (openL a b).length ≤ b.length * (a.length + 1) := mapL_len (by omega) (opF_len a) b [0]
/-- the first redex -/
def redB : List (Int × Int) → Bool
  | x :: y :: _ => decide (x.1 = 2) && decide (y.1 = 1)
  | _ => false
def redL (c : List (Int × Int)) : Nat → Nat → Option Nat
  | 0, _ => none
  | f + 1, k => if redB (c.drop k) = true then some k else redL c f (k + 1)
theorem redL_some {c : List (Int × Int)} : ∀ {f k i : Nat}, redL c f k = some i → k ≤ i ∧ i < k + f ∧ redB (c.drop i) = true
  | 0, k, i, h => by cases h
  | f + 1, k, i, h => by
    rw [redL] at h
    split at h
    · injection h with h; subst h; exact ⟨Nat.le_refl _, by omega, by assumption⟩
    · obtain ⟨h1, h2, h3⟩ := redL_some h; exact ⟨by omega, by omega, h3⟩
theorem redB_at {c : List (Int × Int)} {k : Nat} {x y : Int × Int} (hx : c[k]? = some x) (hy : c[k + 1]? = some y) : redB (c.drop k) = (decide (x.1 = 2) && decide (y.1 = 1)) := by
  rw [drop_at hx, drop_at hy]; rfl
theorem redB_last {c : List (Int × Int)} {k : Nat} (h : c.length ≤ k + 1) : redB (c.drop k) = false := by
  have : (c.drop k).length ≤ 1 := by rw [List.length_drop]; omega
  match c.drop k, this with
  | [], _ => rfl
  | [x], _ => rfl
  | x :: y :: l, h => simp at h
theorem redB_true {c : List (Int × Int)} {k : Nat} (h : redB (c.drop k) = true) : ∃ x y, c[k]? = some x ∧ c[k + 1]? = some y ∧ x.1 = 2 ∧ y.1 = 1 := by
  have h0 : ∀ l : List (Int × Int), c.drop k = l → redB l = true → ∃ x y, c[k]? = some x ∧ c[k + 1]? = some y ∧ x.1 = 2 ∧ y.1 = 1 := by
    intro l hl hr
    match l, hr with
    | x :: y :: l, hr =>
      simp only [redB, Bool.and_eq_true, decide_eq_true_eq] at hr
      have e0 : (c.drop k)[0]? = some x := by rw [hl]; rfl
      have e1 : (c.drop k)[1]? = some y := by rw [hl]; rfl
      rw [List.getElem?_drop] at e0 e1
      exact ⟨x, y, e0, e1, hr.1, hr.2⟩
  exact h0 _ rfl h
/-- where the term that begins at an index ends -/
def endL (c : List (Int × Int)) (k : Nat) : Nat := k + (endP manyL (c.drop k) 1).getD 0
def bodyL (c : List (Int × Int)) (k : Nat) : List (Int × Int) := (c.drop (k + 2)).take (endL c (k + 1) - (k + 2))
def argL (c : List (Int × Int)) (k : Nat) : List (Int × Int) := (c.drop (endL c (k + 1))).take (endL c (endL c (k + 1)) - endL c (k + 1))
def stepL (c : List (Int × Int)) (k : Nat) : List (Int × Int) := c.take k ++ (openL (argL c k) (bodyL c k) ++ c.drop (endL c (endL c (k + 1))))
theorem stepL_len {c : List (Int × Int)} {k : Nat} (hc : c.length ≤ 400) : (stepL c k).length ≤ 200000 := by
  have h1 := openL_len (argL c k) (bodyL c k)
  have h2 : (argL c k).length ≤ 400 := by rw [argL, List.length_take, List.length_drop]; omega
  have h3 : (bodyL c k).length ≤ 400 := by rw [bodyL, List.length_take, List.length_drop]; omega
  have h4 : (bodyL c k).length * ((argL c k).length + 1) ≤ 400 * 401 := Nat.mul_le_mul h3 (by omega)
  simp only [stepL, List.length_append, List.length_take, List.length_drop]; omega
/-- a redex in a term: its body and its argument are terms -/
theorem red_parts {c : List (Int × Int)} {k : Nat} (h : endP manyL c 1 = some c.length) (hr : redB (c.drop k) = true) :
    ∃ p q, endP manyL (c.drop (k + 2)) 1 = some p ∧ endL c (k + 1) = k + 2 + p ∧ endP manyL (c.drop (k + 1)) 1 = some (p + 1) ∧ endP manyL (c.drop (k + 2 + p)) 1 = some q ∧ endL c (k + 2 + p) = k + 2 + p + q ∧ k + 2 + p + q ≤ c.length ∧ 1 ≤ p ∧ 1 ≤ q := by
  obtain ⟨x, y, hx, hy, hx2, hy1⟩ := redB_true hr
  obtain ⟨hk, _⟩ := List.getElem?_eq_some_iff.1 hx
  obtain ⟨o, ho, h1⟩ := endP_drop h hk
  rw [show o = 1 + (o - 1) by omega] at h1
  obtain ⟨r, s, h2, _, hrs⟩ := endP_add h1
  have hle := (endP_le h2).1
  rw [List.length_drop] at hle
  rw [drop_at hx, show (1 : Nat) = 0 + 1 from rfl, endP_cons, hx2, show 0 + manyL 2 = 1 + 1 from rfl] at h2
  obtain ⟨t, h3, rfl⟩ := Option.map_eq_some_iff.1 h2
  obtain ⟨p1, q, h4, h5, rfl⟩ := endP_add h3
  have h4' := h4
  rw [drop_at hy, show (1 : Nat) = 0 + 1 from rfl, endP_cons, hy1, show 0 + manyL 1 = 0 + 1 from rfl] at h4
  obtain ⟨p, h6, rfl⟩ := Option.map_eq_some_iff.1 h4
  have e1 : endL c (k + 1) = k + 2 + p := by rw [endL, h4']; simp; omega
  rw [List.drop_drop, show k + 1 + (p + 1) = k + 2 + p by omega] at h5
  exact ⟨p, q, h6, e1, h4', h5, by rw [endL, h5]; rfl, by omega, endP_pos h6, endP_pos h5⟩
/-- the run: the term, the steps, whether it is normal; none: a term is not valid -/
def runL : Nat → List (Int × Int) → Nat → Option (List (Int × Int) × Nat × Bool)
  | 0, c, n => match redL c c.length 0 with
    | none => some (c, n, true)
    | some _ => some (c, n, false)
  | b + 1, c, n => match redL c c.length 0 with
    | none => some (c, n, true)
    | some k => if validL (stepL c k) then runL b (stepL c k) (n + 1) else none
def runKL (b : Nat) (c : List (Int × Int)) (n : Nat) : Option Nat → Option (List (Int × Int) × Nat × Bool)
  | none => some (c, n, true)
  | some k => if b = 0 then some (c, n, false) else if validL (stepL c k) then runL (b - 1) (stepL c k) (n + 1) else none
theorem runL_eq (b : Nat) (c : List (Int × Int)) (n : Nat) : runL b c n = runKL b c n (redL c c.length 0) := by
  cases b with
  | zero => rw [runL]; cases redL c c.length 0 <;> rfl
  | succ b => rw [runL]; cases redL c c.length 0 <;> simp [runKL]
theorem runL_valid : ∀ {b : Nat} {c : List (Int × Int)} {n : Nat} {t : List (Int × Int)} {s : Nat} {q : Bool}, validL c = true → runL b c n = some (t, s, q) → validL t = true ∧ n ≤ s ∧ s ≤ n + b
  | 0, c, n, t, s, q, hv, h => by
    rw [runL_eq] at h
    cases hf : redL c c.length 0 with
    | none => rw [hf] at h; simp [runKL] at h; obtain ⟨rfl, rfl, _⟩ := h; exact ⟨hv, by omega, by omega⟩
    | some k => rw [hf] at h; simp [runKL] at h; obtain ⟨rfl, rfl, _⟩ := h; exact ⟨hv, by omega, by omega⟩
  | b + 1, c, n, t, s, q, hv, h => by
    rw [runL_eq] at h
    cases hf : redL c c.length 0 with
    | none => rw [hf] at h; simp [runKL] at h; obtain ⟨rfl, rfl, _⟩ := h; exact ⟨hv, by omega, by omega⟩
    | some k =>
      rw [hf] at h
      simp only [runKL, Nat.add_sub_cancel] at h
      rw [if_neg (by omega)] at h
      split at h
      · rename_i hs
        have := runL_valid hs h
        exact ⟨this.1, by omega, by omega⟩
      · cases h
/-- the answer: the term, the steps, whether it is normal, the code -/
def rcL (c : List (Int × Int)) (budget : Int) : List (Int × Int) × Int × Bool × Int :=
  if validL c = false then ([], 0, false, 1)
  else if inB budget 1 20000 = false then ([], 0, false, 2)
  else rcX (runL budget.toNat c 0)
end Go.Proofs.Ytcanahpgkedcjaa
