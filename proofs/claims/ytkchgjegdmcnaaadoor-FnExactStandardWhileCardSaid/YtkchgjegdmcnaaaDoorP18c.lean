/-
  Applications of combinator terms, variables, numerals, in plain Lean. Nothing of the program.
-/
import Derived.Test.YtkchgjegdmcnaaaDoorP12c
namespace Go.Proofs.YtkchgjegdmcnaaaDoor
open Go.RowKit

/-- the indices of the variables -/
def varsC (c : List (Int × Int)) : List Int := c.filterMap fun x => if x.1 = 4 then some x.2 else none
def hasV (c : List (Int × Int)) : Bool := c.any fun x => decide (x.1 = 4)
theorem varsC_nil (c : List (Int × Int)) : varsC c = [] ↔ hasV c = false := by
  induction c with
  | nil => simp [varsC, hasV]
  | cons x l ih =>
    unfold varsC hasV at *
    by_cases h : x.1 = 4
    · simp [h]
    · simp only [List.filterMap_cons, h, if_false, List.any_cons, decide_false, Bool.false_or]; exact ih
def varT (v : Int) : Int × Int := (4, v)
/-- the application to variables -/
def appV (c : List (Int × Int)) (vs : List Int) : List (Int × Int) := List.replicate vs.length (0, 0) ++ c ++ vs.map varT
theorem appV_len (c : List (Int × Int)) (vs : List Int) : (appV c vs).length = c.length + 2 * vs.length := by simp [appV]; omega
theorem endP_apps {l : List (Int × Int)} {p : Nat} : ∀ {m n : Nat}, endP manyC l (n + 1 + m) = some p → endP manyC (List.replicate m (0, 0) ++ l) (n + 1) = some (m + p)
  | 0, n, h => by simpa using h
  | m + 1, n, h => by
    rw [List.replicate_succ, List.cons_append, endP_cons]
    rw [show n + manyC 0 = (n + 1) + 1 by simp [manyC]]
    rw [endP_apps (m := m) (n := n + 1) (by rw [show n + 1 + 1 + m = n + 1 + (m + 1) by omega]; exact h)]
    simp; omega
theorem endP_vars : ∀ (vs : List Int), endP manyC (vs.map varT) vs.length = some vs.length
  | [] => rfl
  | v :: vs => by
    rw [List.map_cons, List.length_cons, endP_cons]
    rw [show manyC (varT v).1 = 0 from rfl, Nat.add_zero, endP_vars vs]; rfl
theorem endP_more {f : Int → Nat} : ∀ {l r : List (Int × Int)} {n p : Nat}, endP f l n = some p → endP f (l ++ r) n = some p
  | l, r, 0, p, h => by rw [endP_zero] at h ⊢; exact h
  | [], r, n + 1, p, h => by cases h
  | x :: l, r, n + 1, p, h => by
    rw [endP_cons] at h
    obtain ⟨q, hq, rfl⟩ := Option.map_eq_some_iff.1 h
    rw [List.cons_append, endP_cons, endP_more hq]; rfl
theorem endP_appV {c : List (Int × Int)} (h : endP manyC c 1 = some c.length) (vs : List Int) : endP manyC (appV c vs) 1 = some (appV c vs).length := by
  have h1 : endP manyC (c ++ vs.map varT) (1 + vs.length) = some (c.length + vs.length) := endP_app (endP_more h) (by rw [List.drop_left]; exact endP_vars vs)
  have h2 := endP_apps (m := vs.length) (n := 0) (l := c ++ vs.map varT) (p := c.length + vs.length) (by rw [Nat.zero_add]; exact h1)
  rw [Nat.zero_add, ← List.append_assoc] at h2
  rw [appV_len, appV, h2]
  congr 1; omega
theorem validC_appV {c : List (Int × Int)} (h : validC c = true) (vs : List Int) (hv : ∀ v ∈ vs, inB v 0 399 = true) : validC (appV c vs) = decide ((appV c vs).length ≤ 400) := by
  obtain ⟨h1, h2, h3⟩ := validC_end h
  have hall : (appV c vs).all okC = true := by
    simp only [validC, Bool.and_eq_true] at h
    simp only [appV, List.all_append, Bool.and_eq_true]
    refine ⟨⟨?_, h.1.2⟩, ?_⟩
    · rw [List.all_eq_true]; intro x hx
      obtain ⟨_, rfl⟩ := List.mem_replicate.1 hx; rfl
    · rw [List.all_eq_true]; intro x hx
      obtain ⟨v, hv', rfl⟩ := List.mem_map.1 hx
      show (inB 4 0 4 && inB v 0 399 && (decide ((4 : Int) = 4) || decide (v = 0))) = true
      rw [hv v hv']; rfl
  rw [validC, hall, decide_eq_true (endP_appV h1 vs), Bool.and_true, Bool.and_true]
  have hl : 1 ≤ (appV c vs).length := by rw [appV_len]; omega
  unfold inB
  rw [decide_eq_true (show (1 : Int) ≤ ((appV c vs).length : Int) by omega), Bool.true_and]
  exact decide_eq_decide.2 (by omega)
/-- the numeral of a number -/
def numC : Nat → List (Int × Int)
  | 0 => [(4, 1)]
  | n + 1 => (0, 0) :: (4, 0) :: numC n
theorem numC_len : ∀ n, (numC n).length = 2 * n + 1
  | 0 => rfl
  | n + 1 => by rw [numC]; simp [numC_len n]; omega
/-- the reference's test -/
def cntR : List (Int × Int) → Bool
  | [] => false
  | [x] => decide (x = (4, 1))
  | x :: y :: l => decide (x.1 = 0) && decide (y = (4, 0)) && cntR l
theorem cntR_odd : ∀ {l : List (Int × Int)}, cntR l = true → l.length % 2 = 1 ∧ l[l.length - 1]? = some (4, 1)
  | [], h => by cases h
  | [x], h => by
    have : x = (4, 1) := by simpa [cntR] using h
    subst this; exact ⟨rfl, rfl⟩
  | x :: y :: l, h => by
    simp only [cntR, Bool.and_eq_true] at h
    obtain ⟨h1, h2⟩ := cntR_odd h.2
    refine ⟨by simp; omega, ?_⟩
    have hl : 1 ≤ l.length := by omega
    simp only [List.length_cons]
    rw [show l.length + 1 + 1 - 1 = (l.length - 1) + 1 + 1 by omega, List.getElem?_cons_succ, List.getElem?_cons_succ]; exact h2
theorem cntR_num : ∀ {l : List (Int × Int)}, l.all okC = true → cntR l = decide (l = numC ((l.length - 1) / 2))
  | [], _ => by simp [cntR, numC]
  | [x], _ => by simp [cntR, numC]
  | x :: y :: l, h => by
    simp only [List.all_cons, Bool.and_eq_true] at h
    have ih := cntR_num h.2.2
    rw [cntR, ih]
    by_cases hl : l = []
    · subst hl
      simp [numC]
    · have hp : 1 ≤ l.length := List.length_pos_iff.2 hl
      rw [show ((x :: y :: l).length - 1) / 2 = (l.length - 1) / 2 + 1 by simp; omega, numC]
      have hx : x.1 = 0 ↔ x = (0, 0) := by
        constructor
        · intro e
          have := h.1
          simp only [okC, Bool.and_eq_true, Bool.or_eq_true, decide_eq_true_eq] at this
          rcases this.2 with h4 | h4
          · omega
          · exact Prod.ext e h4
        · intro e; rw [e]
      have e1 : decide (x.1 = 0) = decide (x = (0, 0)) := decide_eq_decide.2 hx
      rw [e1]
      simp only [List.cons.injEq, Bool.decide_and, Bool.and_assoc]
theorem validC_all {c : List (Int × Int)} (h : validC c = true) : c.all okC = true := by
  simp only [validC, Bool.and_eq_true] at h; exact h.1.2
/-- the number of a term: the number, the steps, the code -/
def nuX : Option (List (Int × Int) × Nat × Bool) → Int × Int × Int
  | some (o, s, true) => if cntR o = true then (((o.length - 1) / 2 : Nat), s, 0) else (0, 0, 3)
  | _ => (0, 0, 5)
def nuN (c : List (Int × Int)) (b : Nat) : Int × Int × Int := if (appV c [0, 1]).length ≤ 400 then nuX (runC b (appV c [0, 1]) 0) else (0, 0, 5)
def nuR (c : List (Int × Int)) (b : Int) : Int × Int × Int :=
  if validC c = false then (0, 0, 1) else if inB b 1 20000 = false then (0, 0, 2) else if hasV c = true then (0, 0, 2) else nuN c b.toNat
/-- numbers put in their places, each once -/
def putS (v : Int) : List Int → List Int
  | [] => [v]
  | x :: l => if v ≤ x then (if x = v then x :: l else v :: x :: l) else x :: putS v l
theorem putS_mem {v y : Int} : ∀ {l : List Int}, y ∈ putS v l ↔ y = v ∨ y ∈ l
  | [] => by simp [putS]
  | x :: l => by
    rw [putS]
    split
    · split
      · rename_i e; subst e; simp
      · simp
    · rw [List.mem_cons, putS_mem, List.mem_cons]
      constructor
      · rintro (h | h | h)
        · exact .inr (.inl h)
        · exact .inl h
        · exact .inr (.inr h)
      · rintro (h | h | h)
        · exact .inr (.inl h)
        · exact .inl h
        · exact .inr (.inr h)
theorem putS_len {v : Int} : ∀ {l : List Int}, (putS v l).length ≤ l.length + 1
  | [] => by simp [putS]
  | x :: l => by
    rw [putS]
    split
    · split <;> simp
    · have := putS_len (v := v) (l := l); simp; omega
def namesC (c : List (Int × Int)) : List Int := (varsC c).foldl (fun out v => putS v out) []
theorem foldPut_mem {y : Int} : ∀ (vs acc : List Int), y ∈ vs.foldl (fun out v => putS v out) acc ↔ y ∈ vs ∨ y ∈ acc
  | [], acc => by simp
  | v :: vs, acc => by
    rw [List.foldl_cons, foldPut_mem vs, putS_mem, List.mem_cons]
    constructor
    · rintro (h | h | h)
      · exact .inl (.inr h)
      · exact .inl (.inl h)
      · exact .inr h
    · rintro ((h | h) | h)
      · exact .inr (.inl h)
      · exact .inl h
      · exact .inr (.inr h)
theorem namesC_mem {c : List (Int × Int)} {y : Int} : y ∈ namesC c ↔ y ∈ varsC c := by simp [namesC, foldPut_mem]
theorem namesC_nil (c : List (Int × Int)) : namesC c = [] ↔ hasV c = false := by
  rw [← varsC_nil]
  constructor
  · intro h; apply List.eq_nil_iff_forall_not_mem.2; intro y hy; rw [← namesC_mem, h] at hy; cases hy
  · intro h; apply List.eq_nil_iff_forall_not_mem.2; intro y hy; rw [namesC_mem, h] at hy; cases hy
/-- one more than the greatest of some numbers, 0 at least -/
def topI (vs : List Int) : Int := vs.foldl (fun m v => max m (v + 1)) 0
theorem foldMax_le : ∀ (vs : List Int) (m k : Int), vs.foldl (fun m v => max m (v + 1)) m ≤ k ↔ m ≤ k ∧ ∀ v ∈ vs, v + 1 ≤ k
  | [], m, k => by simp
  | v :: vs, m, k => by
    rw [List.foldl_cons, foldMax_le vs]
    simp only [List.mem_cons, forall_eq_or_imp]
    constructor
    · rintro ⟨h1, h2⟩; exact ⟨by omega, by omega, h2⟩
    · rintro ⟨h1, h2, h3⟩; exact ⟨by omega, h3⟩
theorem topI_congr {vs ws : List Int} (h : ∀ y, y ∈ vs ↔ y ∈ ws) : topI vs = topI ws := by
  have h1 : topI vs ≤ topI ws := (foldMax_le vs 0 _).2 ⟨((foldMax_le ws 0 (topI ws)).1 (Int.le_refl _)).1, fun v hv => ((foldMax_le ws 0 (topI ws)).1 (Int.le_refl _)).2 v ((h v).1 hv)⟩
  have h2 : topI ws ≤ topI vs := (foldMax_le ws 0 _).2 ⟨((foldMax_le vs 0 (topI vs)).1 (Int.le_refl _)).1, fun v hv => ((foldMax_le vs 0 (topI vs)).1 (Int.le_refl _)).2 v ((h v).2 hv)⟩
  omega
end Go.Proofs.YtkchgjegdmcnaaaDoor
