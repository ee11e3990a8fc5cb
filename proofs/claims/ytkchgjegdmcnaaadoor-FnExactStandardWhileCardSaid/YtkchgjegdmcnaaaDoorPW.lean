/-
  While programs in plain Lean: valid expressions, valid programs. Nothing of the program.
-/
import Derived.Test.YtkchgjegdmcnaaaDoorP12c
namespace Go.Proofs.YtkchgjegdmcnaaaDoor
open Go.RowKit

def manyE (k : Int) : Nat := if k = 3 ∨ k = 4 then 1 else if k = 2 ∨ k = 5 then 2 else 0
theorem manyE_le (k : Int) : manyE k ≤ 2 := by unfold manyE; split; · omega
                                               split <;> omega
def okE (x : Int × Int) : Bool := inB x.1 0 5 && inB x.2 0 5 && (decide (x.1 = 1) || decide (x.2 = 0))
def validE (c : List (Int × Int)) : Bool := inB c.length 1 40 && c.all okE && decide (endP manyE c 1 = some c.length)
/-- the reference's loop: the expressions that are still open -/
def needE : List (Int × Int) → Nat → Bool
  | [], n => n == 0
  | x :: l, n => n != 0 && okE x && needE l (n - 1 + manyE x.1)
theorem needE_eq : ∀ (l : List (Int × Int)) (n : Nat), needE l n = (l.all okE && decide (endP manyE l n = some l.length))
  | [], 0 => by simp [needE, endP_zero]
  | [], n + 1 => by simp [needE, endP_nil]
  | x :: l, 0 => by simp [needE, endP_zero]
  | x :: l, n + 1 => by
    have h : (endP manyE (x :: l) (n + 1) = some (x :: l).length) ↔ (endP manyE l (n + manyE x.1) = some l.length) := by
      rw [endP_cons, List.length_cons]
      cases endP manyE l (n + manyE x.1) <;> simp
    have h' : decide (endP manyE (x :: l) (n + 1) = some (x :: l).length) = decide (endP manyE l (n + manyE x.1) = some l.length) := decide_eq_decide.2 h
    rw [needE, needE_eq l, List.all_cons, h']
    simp [Bool.and_assoc]
theorem validE_need (c : List (Int × Int)) : validE c = (inB c.length 1 40 && needE c 1) := by rw [validE, needE_eq, Bool.and_assoc]
theorem validE_end {c : List (Int × Int)} (h : validE c = true) : endP manyE c 1 = some c.length ∧ 1 ≤ c.length ∧ c.length ≤ 40 ∧ c.all okE = true := by
  simp only [validE, Bool.and_eq_true, decide_eq_true_eq] at h
  have := inB_t h.1.1
  exact ⟨h.2, by omega, by omega, h.1.2⟩

/-- a command: kind, variable, length, value -/
abbrev Cmd := Int × Int × Int × List (Int × Int)
def vcL : List Cmd → Bool
  | [] => true
  | c :: l => validE c.2.2.2 && (if c.1 = 0 then inB c.2.1 0 5 && decide (c.2.2.1 = 0) && vcL l
      else if c.1 = 1 then decide (c.2.1 = 0) && inB c.2.2.1 0 l.length && vcL (l.take c.2.2.1.toNat) && vcL (l.drop c.2.2.1.toNat) else false)
termination_by l => l.length
decreasing_by all_goals simp; try omega
theorem vcL_nil : vcL [] = true := by rw [vcL]
theorem vcL_cons (k v n : Int) (x : List (Int × Int)) (l : List Cmd) : vcL ((k, v, n, x) :: l) = (validE x && (if k = 0 then inB v 0 5 && decide (n = 0) && vcL l
      else if k = 1 then decide (v = 0) && inB n 0 l.length && vcL (l.take n.toNat) && vcL (l.drop n.toNat) else false)) := by rw [vcL]
def validW (p : List Cmd) : Bool := decide (p.length ≤ 80) && vcL p
/-- the commands from i up to t -/
def segD (p : List Cmd) (i t : Nat) : List Cmd := (p.drop i).take (t - i)
theorem segD_len {p : List Cmd} {i t : Nat} (h : t ≤ p.length) : (segD p i t).length = t - i := by unfold segD; rw [List.length_take, List.length_drop]; omega
theorem segD_all (p : List Cmd) : segD p 0 p.length = p := by unfold segD; rw [List.drop_zero, Nat.sub_zero, List.take_length]
theorem segD_none (p : List Cmd) (i t : Nat) (h : t ≤ i) : segD p i t = [] := by unfold segD; rw [Nat.sub_eq_zero_of_le h, List.take_zero]
theorem segD_cons {p : List Cmd} {i t : Nat} {c : Cmd} (h : p[i]? = some c) (hi : i < t) : segD p i t = c :: segD p (i + 1) t := by
  unfold segD
  rw [drop_at h, show t - i = (t - (i + 1)) + 1 by omega, List.take_succ_cons]
theorem segD_take (p : List Cmd) (i t m : Nat) (h : i + m ≤ t) : (segD p i t).take m = segD p i (i + m) := by
  unfold segD; rw [List.take_take, Nat.min_eq_left (by omega), Nat.add_sub_cancel_left]
theorem segD_drop (p : List Cmd) (i t m : Nat) : (segD p i t).drop m = segD p (i + m) t := by
  unfold segD; rw [List.drop_take, List.drop_drop]; congr 1; omega
/-- the ends that are open, the nearest first: all that lies between them is valid -/
def vcE (p : List Cmd) : Nat → List Nat → Bool
  | _, [] => true
  | i, t :: ts => vcL (segD p i t) && vcE p t ts
theorem vcE_pop (p : List Cmd) (i : Nat) (ts : List Nat) : vcE p i (i :: ts) = vcE p i ts := by rw [vcE, segD_none _ _ _ (Nat.le_refl _), vcL_nil, Bool.true_and]
theorem vcE_set {p : List Cmd} {i t : Nat} {v n : Int} {x : List (Int × Int)} {ts : List Nat} (h : p[i]? = some (0, v, n, x)) (hi : i < t) :
    vcE p i (t :: ts) = (validE x && inB v 0 5 && decide (n = 0) && vcE p (i + 1) (t :: ts)) := by
  rw [vcE, vcE, segD_cons h hi, vcL_cons, if_pos rfl]
  simp [Bool.and_assoc]
theorem vcE_while {p : List Cmd} {i t : Nat} {v : Int} {n : Nat} {x : List (Int × Int)} {ts : List Nat} (h : p[i]? = some (1, v, (n : Int), x)) (hi : i < t) (ht : t ≤ p.length) (hn : i + 1 + n ≤ t) :
    vcE p i (t :: ts) = (validE x && decide (v = 0) && vcE p (i + 1) ((i + 1 + n) :: t :: ts)) := by
  rw [vcE, vcE, vcE, segD_cons h hi, vcL_cons, if_neg (by decide), if_pos rfl, Int.toNat_natCast, segD_take _ _ _ _ hn, segD_drop, segD_len ht, inB_of (by omega) (by omega)]
  simp [Bool.and_assoc]
theorem vcE_bad {p : List Cmd} {i t : Nat} {v n : Int} {x : List (Int × Int)} {ts : List Nat} (h : p[i]? = some (1, v, n, x)) (hi : i < t) (ht : t ≤ p.length) (hn : inB n 0 ((t : Int) - i - 1) = false) :
    vcE p i (t :: ts) = false := by
  have e : (((t - (i + 1) : Nat)) : Int) = (t : Int) - i - 1 := by omega
  rw [vcE, segD_cons h hi, vcL_cons, if_neg (by decide), if_pos rfl, segD_len ht, e, hn]
  simp
theorem vcE_kind {p : List Cmd} {i t : Nat} {k v n : Int} {x : List (Int × Int)} {ts : List Nat} (h : p[i]? = some (k, v, n, x)) (hi : i < t) (h0 : k ≠ 0) (h1 : k ≠ 1) :
    vcE p i (t :: ts) = false := by
  rw [vcE, segD_cons h hi, vcL_cons, if_neg h0, if_neg h1]
  simp
theorem vcE_var {p : List Cmd} {i t : Nat} {v n : Int} {x : List (Int × Int)} {ts : List Nat} (h : p[i]? = some (1, v, n, x)) (hi : i < t) (hv : v ≠ 0) : vcE p i (t :: ts) = false := by
  rw [vcE, segD_cons h hi, vcL_cons, if_neg (by decide), if_pos rfl]
  simp [hv]
theorem vcE_val {p : List Cmd} {i t : Nat} {k v n : Int} {x : List (Int × Int)} {ts : List Nat} (h : p[i]? = some (k, v, n, x)) (hi : i < t) (h0 : validE x = false ∨ inB v 0 5 = false) :
    vcE p i (t :: ts) = false := by
  rw [vcE, segD_cons h hi, vcL_cons]
  rcases h0 with h0 | h0
  · rw [h0]; simp
  · rw [h0]
    by_cases hk : k = 0
    · simp [hk]
    · rw [if_neg hk]
      have hv : v ≠ 0 := by rintro rfl; simp [inB] at h0
      simp [hv]
theorem vcE_end (p : List Cmd) : ∀ (ts : List Nat) (i : Nat), p.length ≤ i → (∀ t ∈ ts, p.length ≤ t) → vcE p i ts = true
  | [], _, _, _ => rfl
  | t :: ts, i, hi, h => by
    have ht := h t (by simp)
    have e : segD p i t = [] := by unfold segD; rw [List.drop_eq_nil_of_le hi, List.take_nil]
    rw [vcE, e, vcL_nil, Bool.true_and, vcE_end p ts t ht (fun u hu => h u (by simp [hu]))]
/-- the open ends: the nearest first, the end of all behind -/
def chainS (n : Nat) : Nat → List Nat → Prop
  | _, [] => False
  | i, [t] => t = n ∧ i ≤ n
  | i, t :: u :: ts => i ≤ t ∧ chainS n t (u :: ts)
theorem chainS_le {n : Nat} : ∀ {ts : List Nat} {i t : Nat}, chainS n i (t :: ts) → i ≤ t ∧ t ≤ n
  | [], i, t, h => by obtain ⟨h1, h2⟩ := h; omega
  | u :: ts, i, t, h => by
    obtain ⟨h1, h2⟩ := h
    have := chainS_le h2
    omega
theorem chainS_all {n : Nat} : ∀ {ts : List Nat} {i : Nat}, chainS n i ts → ∀ t ∈ ts, i ≤ t
  | [t], i, h, u, hu => by rw [List.mem_singleton] at hu; subst hu; obtain ⟨h1, h2⟩ := h; omega
  | t :: v :: ts, i, h, u, hu => by
    obtain ⟨h1, h2⟩ := h
    rcases List.mem_cons.1 hu with rfl | hu
    · exact h1
    · have := chainS_all h2 u hu; omega
theorem chainS_up {n i : Nat} : ∀ {ts : List Nat} {t : Nat}, chainS n i (t :: ts) → i < t → chainS n (i + 1) (t :: ts)
  | [], t, h, hi => by obtain ⟨h1, h2⟩ := h; exact ⟨h1, by omega⟩
  | u :: ts, t, h, hi => by obtain ⟨h1, h2⟩ := h; exact ⟨by omega, h2⟩
theorem chainS_at {n i : Nat} : ∀ {ts : List Nat} {t : Nat}, chainS n i (t :: ts) → chainS n t (t :: ts)
  | [], t, h => by obtain ⟨h1, h2⟩ := h; exact ⟨h1, by omega⟩
  | u :: ts, t, h => by obtain ⟨h1, h2⟩ := h; exact ⟨Nat.le_refl _, h2⟩
theorem chainS_push {n i t m : Nat} {ts : List Nat} (h : chainS n i (t :: ts)) (hm : i + 1 + m ≤ t) : chainS n (i + 1) ((i + 1 + m) :: t :: ts) := by
  refine ⟨by omega, ?_⟩
  cases ts with
  | nil => obtain ⟨h1, h2⟩ := h; exact ⟨h1, by omega⟩
  | cons u ts => obtain ⟨h1, h2⟩ := h; exact ⟨by omega, h2⟩
theorem chainS_open {n i t : Nat} {ts : List Nat} (h : chainS n i (t :: ts)) (hi : i < n) (hp : ts = [] ∨ t ≠ i) : i < t := by
  have h1 := chainS_le h
  rcases hp with rfl | hp
  · obtain ⟨h2, _⟩ := h; omega
  · omega
theorem vcL_all : ∀ (N : Nat) (l : List Cmd), l.length ≤ N → vcL l = true → ∀ c ∈ l, validE c.2.2.2 = true ∧ (c.1 = 0 ∨ c.1 = 1) ∧ inB c.2.1 0 5 = true
  | _, [], _, _, c, hc => by cases hc
  | 0, x :: l, hN, _, c, hc => by simp at hN
  | N + 1, (k, v, n, x) :: l, hN, h, c, hc => by
    rw [vcL_cons] at h
    simp only [List.length_cons] at hN
    simp only [Bool.and_eq_true] at h
    obtain ⟨h1, h2⟩ := h
    by_cases hk : k = 0
    · rw [if_pos hk] at h2
      simp only [Bool.and_eq_true] at h2
      rcases List.mem_cons.1 hc with rfl | hc
      · exact ⟨h1, .inl hk, h2.1.1⟩
      · exact vcL_all N l (by omega) h2.2 c hc
    · rw [if_neg hk] at h2
      by_cases hk1 : k = 1
      · rw [if_pos hk1] at h2
        simp only [Bool.and_eq_true] at h2
        rcases List.mem_cons.1 hc with rfl | hc
        · have hv : v = 0 := by simpa using h2.1.1.1
          refine ⟨h1, .inr hk1, ?_⟩
          show inB v 0 5 = true
          rw [hv]; rfl
        · rw [← List.take_append_drop n.toNat l] at hc
          rcases List.mem_append.1 hc with hc | hc
          · exact vcL_all N _ (by rw [List.length_take]; omega) h2.1.2 c hc
          · exact vcL_all N _ (by rw [List.length_drop]; omega) h2.2 c hc
      · rw [if_neg hk1] at h2; cases h2
theorem validW_all {p : List Cmd} (h : validW p = true) : p.length ≤ 80 ∧ ∀ c ∈ p, validE c.2.2.2 = true ∧ (c.1 = 0 ∨ c.1 = 1) ∧ inB c.2.1 0 5 = true := by
  simp only [validW, Bool.and_eq_true, decide_eq_true_eq] at h
  exact ⟨h.1, vcL_all _ p (Nat.le_refl _) h.2⟩
end Go.Proofs.YtkchgjegdmcnaaaDoor
