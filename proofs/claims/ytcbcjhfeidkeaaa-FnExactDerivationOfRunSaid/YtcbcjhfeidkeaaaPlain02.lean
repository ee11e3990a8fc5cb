/-
  Plain facts on lists of limbs: trimming, carrying, adding. Nothing of the program.
-/
import Derived.Test.YtcbcjhfeidkeaaaC02
namespace Go.Proofs.Ytcbcjhfeidkeaaa

def trimL (xs : List Int) : List Int := (xs.reverse.dropWhile (· == 0)).reverse
theorem trimL_zero {xs : List Int} {k : Nat} (h : xs[k]? = some 0) : trimL (xs.take (k + 1)) = trimL (xs.take k) := by
  rw [take_at h]; simp [trimL]
theorem trimL_stop {xs : List Int} {k : Nat} {x : Int} (h : xs[k]? = some x) (hx : x ≠ 0) : trimL (xs.take (k + 1)) = xs.take (k + 1) := by
  rw [take_at h]; simp [trimL, hx]
theorem trimL_nil : trimL [] = [] := rfl
theorem trimL_len (xs : List Int) : (trimL xs).length ≤ xs.length := by
  have := (List.dropWhile_sublist (p := (· == 0)) (l := xs.reverse)).length_le
  simpa [trimL] using this
theorem trimL_take (xs : List Int) : trimL xs = xs.take (trimL xs).length := by
  have h : trimL xs <+: xs := by
    unfold trimL
    have := List.dropWhile_suffix (p := (· == 0)) (l := xs.reverse)
    have h2 := List.reverse_prefix.2 this
    simpa using h2
  exact (List.prefix_iff_eq_take.1 h)

def carT : Nat → Int → List Int
  | 0, _ => []
  | f + 1, c => if 0 < c then (c % 1000000) :: carT f (c / 1000000) else []
theorem carT_fuel : ∀ (f g : Nat) (c : Int), c.toNat ≤ f → c.toNat ≤ g → carT f c = carT g c
  | 0, 0, _, _, _ => rfl
  | 0, g + 1, c, h, _ => by simp only [carT]; rw [if_neg (by omega)]
  | f + 1, 0, c, _, h => by simp only [carT]; rw [if_neg (by omega)]
  | f + 1, g + 1, c, h1, h2 => by
    simp only [carT]
    split
    · rw [carT_fuel f g (c / 1000000) (by omega) (by omega)]
    · rfl
def carL : List Int → Int → List Int
  | [], c => carT c.toNat c
  | x :: xs, c => ((c + x) % 1000000) :: carL xs ((c + x) / 1000000)
theorem carL_zero {c : Int} (h : ¬ 0 < c) : carL [] c = [] := by
  rw [carL, show c.toNat = 0 by omega]; rfl
theorem carL_pos {c : Int} (h : 0 < c) : carL [] c = (c % 1000000) :: carL [] (c / 1000000) := by
  have e : c.toNat = (c.toNat - 1) + 1 := by omega
  rw [carL, e, carT, if_pos h, carL, carT_fuel (c.toNat - 1) (c / 1000000).toNat _ (by omega) (by omega)]

theorem carT_len : ∀ (f : Nat) (c : Int), (carT f c).length ≤ f
  | 0, _ => by simp [carT]
  | f + 1, c => by
    simp only [carT]
    split
    · have := carT_len f (c / 1000000); simp; omega
    · simp
theorem carL_len : ∀ (zs : List Int) (c : Int), 0 ≤ c → c ≤ 1000000000 → (∀ z ∈ zs, 0 ≤ z ∧ z ≤ 1000000000000) → (carL zs c).length ≤ zs.length + 1000000000
  | [], c, h0, h1, _ => by have := carT_len c.toNat c; simp only [carL, List.length_nil]; omega
  | z :: zs, c, h0, h1, hz => by
    have hb := hz z (by simp)
    have := carL_len zs ((c + z) / 1000000) (by omega) (by omega) (fun u hu => hz u (by simp [hu]))
    simp only [carL, List.length_cons]; omega

def sumL : List Int → List Int → List Int
  | [], ys => ys
  | x :: xs, [] => x :: xs
  | x :: xs, y :: ys => (x + y) :: sumL xs ys
theorem sumL_nil_right (xs : List Int) : sumL xs [] = xs := by cases xs <;> rfl

/-- the last number is not zero, or there is none -/
def lastOk (xs : List Int) : Prop := ∀ x, xs.getLast? = some x → x ≠ 0
theorem trimL_ok {xs : List Int} (h : lastOk xs) : trimL xs = xs := by
  rcases List.eq_nil_or_concat xs with rfl | ⟨ys, x, rfl⟩
  · rfl
  · have : x ≠ 0 := h x (by simp)
    simp [trimL, this]
theorem carL_ne {xs : List Int} {c : Int} (h : xs ≠ []) : carL xs c ≠ [] := by
  cases xs with
  | nil => exact absurd rfl h
  | cons x xs => simp [carL]
theorem lastOk_cons {x : Int} {xs : List Int} (hne : xs ≠ []) (h : lastOk xs) : lastOk (x :: xs) := by
  intro y hy
  rw [List.getLast?_cons] at hy
  cases hl : xs.getLast? with
  | none => rw [List.getLast?_eq_none_iff] at hl; exact absurd hl hne
  | some z => rw [hl] at hy; simp at hy; subst hy; exact h _ hl
theorem carNil_ok : ∀ (n : Nat) (c : Int), c.toNat ≤ n → lastOk (carL [] c)
  | 0, c, h => by rw [carL_zero (by omega)]; intro y hy; simp at hy
  | n + 1, c, h => by
    by_cases hc : 0 < c
    · rw [carL_pos hc]
      by_cases hd : 0 < c / 1000000
      · exact lastOk_cons (by rw [carL_pos hd]; simp) (carNil_ok n _ (by omega))
      · rw [carL_zero hd]
        intro y hy
        simp at hy
        subst hy
        omega
    · rw [carL_zero hc]; intro y hy; simp at hy
theorem carL_ok : ∀ (zs : List Int) (c : Int), 0 ≤ c → (∀ z ∈ zs, 0 ≤ z) → lastOk zs → lastOk (carL zs c)
  | [], c, _, _, _ => carNil_ok _ c (Nat.le_refl _)
  | [x], c, hc, hz, hl => by
    have hx0 : x ≠ 0 := hl x rfl
    have hx := hz x (by simp)
    rw [carL]
    by_cases hd : 0 < (c + x) / 1000000
    · exact lastOk_cons (by rw [carL_pos hd]; simp) (carNil_ok _ _ (Nat.le_refl _))
    · rw [carL_zero hd]
      intro y hy
      simp at hy
      subst hy
      omega
  | x :: y :: zs, c, hc, hz, hl => by
    rw [carL]
    refine lastOk_cons (carL_ne (by simp)) (carL_ok (y :: zs) _ ?_ (fun z h => hz z (by simp [h])) ?_)
    · have := hz x (by simp); omega
    · intro u hu; exact hl u (by rw [List.getLast?_cons]; rw [hu]; simp)
theorem sumL_nonneg : ∀ (xs ys : List Int), (∀ x ∈ xs, 0 ≤ x) → (∀ y ∈ ys, 0 ≤ y) → ∀ z ∈ sumL xs ys, 0 ≤ z
  | [], ys, _, hy, z, hz => hy z hz
  | x :: xs, [], hx, _, z, hz => hx z hz
  | x :: xs, y :: ys, hx, hy, z, hz => by
    simp only [sumL, List.mem_cons] at hz
    rcases hz with rfl | hz
    · have := hx x (by simp); have := hy y (by simp); omega
    · exact sumL_nonneg xs ys (fun u h => hx u (by simp [h])) (fun u h => hy u (by simp [h])) z hz
theorem sumL_nil {xs ys : List Int} (h : sumL xs ys = []) : xs = [] ∧ ys = [] := by
  cases xs <;> cases ys <;> simp_all [sumL]
theorem sumL_ok : ∀ (xs ys : List Int), (∀ x ∈ xs, 0 ≤ x) → (∀ y ∈ ys, 0 ≤ y) → lastOk xs → lastOk ys → lastOk (sumL xs ys)
  | [], ys, _, _, _, hl => hl
  | x :: xs, [], _, _, hl, _ => hl
  | x :: xs, y :: ys, hx, hy, hl, hl' => by
    rw [sumL]
    by_cases hn : sumL xs ys = []
    · obtain ⟨rfl, rfl⟩ := sumL_nil hn
      have h1 := hl x rfl
      have h2 := hx x (by simp)
      have h3 := hy y (by simp)
      intro u hu
      simp [sumL] at hu
      omega
    · have hxs : lastOk xs := by
        cases xs with
        | nil => intro u hu; simp at hu
        | cons a l => intro u hu; exact hl u (by rw [List.getLast?_cons, hu]; simp)
      have hys : lastOk ys := by
        cases ys with
        | nil => intro u hu; simp at hu
        | cons a l => intro u hu; exact hl' u (by rw [List.getLast?_cons, hu]; simp)
      exact lastOk_cons hn (sumL_ok xs ys (fun u h => hx u (by simp [h])) (fun u h => hy u (by simp [h])) hxs hys)
theorem natB_parts {xs : List Int} (h : natB xs = true) : xs.length ≤ 40 ∧ (∀ x ∈ xs, 0 ≤ x ∧ x ≤ 999999) ∧ lastOk xs := by
  simp only [natB, Bool.and_eq_true, decide_eq_true_eq] at h
  refine ⟨h.1, allB_mem h.2.1, fun x hx => ?_⟩
  have := h.2.2
  rw [lastN, hx] at this
  simpa using this
theorem add_trim {xs ys : List Int} (h : natB xs = true) (h' : natB ys = true) : trimL (carL (sumL xs ys) 0) = carL (sumL xs ys) 0 := by
  obtain ⟨_, a, b⟩ := natB_parts h
  obtain ⟨_, a', b'⟩ := natB_parts h'
  exact trimL_ok (carL_ok _ 0 (by omega) (sumL_nonneg xs ys (fun x hx => (a x hx).1) (fun y hy => (a' y hy).1)) (sumL_ok xs ys (fun x hx => (a x hx).1) (fun y hy => (a' y hy).1) b b'))
def addR (xs ys : List Int) : List Int × Int :=
  if natB xs && natB ys then (if 40 < (carL (sumL xs ys) 0).length then ([], 5) else (carL (sumL xs ys) 0, 0)) else ([], 1)
end Go.Proofs.Ytcbcjhfeidkeaaa
