/-
  Plain facts on lists of limbs: their value, halving. Nothing of the program.
-/
import Derived.Test.YtbpeagnldgefeaaC02c
namespace Go.Proofs.Ytbpeagnldgefeaa

def valL : List Int → Int
  | [] => 0
  | x :: xs => x + 1000000 * valL xs
def limbs (xs : List Int) : Prop := ∀ x ∈ xs, 0 ≤ x ∧ x ≤ 999999
theorem limbs_tail {x : Int} {xs : List Int} (h : limbs (x :: xs)) : limbs xs := fun u hu => h u (by simp [hu])
theorem limbs_head {x : Int} {xs : List Int} (h : limbs (x :: xs)) : 0 ≤ x ∧ x ≤ 999999 := h x (by simp)
theorem valL_nonneg : ∀ (xs : List Int), limbs xs → 0 ≤ valL xs
  | [], _ => by simp [valL]
  | x :: xs, h => by have := valL_nonneg xs (limbs_tail h); have := limbs_head h; simp only [valL]; omega
theorem valL_app : ∀ (xs : List Int) (k : Nat), valL (xs ++ List.replicate k 0) = valL xs
  | [], 0 => rfl
  | [], k + 1 => by have := valL_app [] k; simp [valL, List.replicate_succ] at this ⊢; omega
  | x :: xs, k => by have := valL_app xs k; simp only [List.cons_append, valL, this]
theorem dropWhile_zeros : ∀ (l : List Int), ∃ k, l = List.replicate k 0 ++ l.dropWhile (· == 0)
  | [] => ⟨0, by simp⟩
  | x :: l => by
    by_cases hx : x = 0
    · obtain ⟨k, hk⟩ := dropWhile_zeros l
      refine ⟨k + 1, ?_⟩
      subst hx
      simp only [List.replicate_succ, List.cons_append]
      rw [show ((0 : Int) :: l).dropWhile (· == 0) = l.dropWhile (· == 0) by simp]
      rw [← hk]
    · exact ⟨0, by simp [hx]⟩
theorem trimL_split (xs : List Int) : ∃ k, xs = trimL xs ++ List.replicate k 0 := by
  obtain ⟨k, hk⟩ := dropWhile_zeros xs.reverse
  refine ⟨k, ?_⟩
  have := congrArg List.reverse hk
  simpa [trimL] using this
theorem valL_trim (xs : List Int) : valL (trimL xs) = valL xs := by
  obtain ⟨k, hk⟩ := trimL_split xs
  have := valL_app (trimL xs) k
  rw [← hk] at this
  exact this.symm
theorem trimL_limbs {xs : List Int} (h : limbs xs) : limbs (trimL xs) := by
  intro x hx
  rw [trimL_take xs] at hx
  exact h x (List.mem_of_mem_take hx)
theorem dropWhile_head : ∀ (l : List Int) (x : Int), (l.dropWhile (· == 0)).head? = some x → x ≠ 0
  | [], x, h => by simp at h
  | y :: l, x, h => by
    by_cases hy : y = 0
    · subst hy; exact dropWhile_head l x (by simpa using h)
    · have e : (y :: l).dropWhile (· == 0) = y :: l := by simp [hy]
      rw [e] at h; simp at h; subst h; exact hy
theorem trimL_lastOk (xs : List Int) : lastOk (trimL xs) := by
  intro x hx
  refine dropWhile_head xs.reverse x ?_
  rw [trimL, List.getLast?_reverse] at hx
  exact hx
theorem lastOk_tail {x : Int} {xs : List Int} (h : lastOk (x :: xs)) : lastOk xs := by
  cases xs with
  | nil => intro u hu; simp at hu
  | cons a l => intro u hu; exact h u (by rw [List.getLast?_cons, hu]; simp)
theorem valL_zero : ∀ (xs : List Int), limbs xs → lastOk xs → valL xs = 0 → xs = []
  | [], _, _, _ => rfl
  | x :: xs, h, hl, hv => by
    have a := valL_nonneg xs (limbs_tail h)
    have b := limbs_head h
    simp only [valL] at hv
    have e := valL_zero xs (limbs_tail h) (lastOk_tail hl) (by omega)
    subst e
    exact absurd (show x = 0 by omega) (hl x rfl)
theorem valL_inj : ∀ (xs ys : List Int), limbs xs → limbs ys → lastOk xs → lastOk ys → valL xs = valL ys → xs = ys
  | [], ys, _, hy, _, hl, h => (valL_zero ys hy hl (by rw [← h]; rfl)).symm
  | x :: xs, [], hx, _, hl, _, h => valL_zero _ hx hl (by rw [h]; rfl)
  | x :: xs, y :: ys, hx, hy, hl, hl', h => by
    have a := limbs_head hx
    have b := limbs_head hy
    simp only [valL] at h
    have e1 : x = y := by omega
    have e2 := valL_inj xs ys (limbs_tail hx) (limbs_tail hy) (lastOk_tail hl) (lastOk_tail hl') (by omega)
    rw [e1, e2]
theorem valL_car0 : ∀ (f : Nat) (c : Int), 0 ≤ c → c.toNat ≤ f → valL (carT f c) = c ∧ limbs (carT f c)
  | 0, c, h0, h => ⟨by simp [carT, valL]; omega, by intro u hu; simp [carT] at hu⟩
  | f + 1, c, h0, h => by
    simp only [carT]
    split
    · obtain ⟨a, b⟩ := valL_car0 f (c / 1000000) (by omega) (by omega)
      refine ⟨by simp only [valL, a]; omega, ?_⟩
      intro u hu
      simp only [List.mem_cons] at hu
      rcases hu with rfl | hu
      · omega
      · exact b u hu
    · exact ⟨by simp [valL]; omega, by intro u hu; simp at hu⟩
theorem valL_car : ∀ (zs : List Int) (c : Int), 0 ≤ c → (∀ z ∈ zs, 0 ≤ z) → valL (carL zs c) = valL zs + c ∧ limbs (carL zs c)
  | [], c, h0, _ => by obtain ⟨a, b⟩ := valL_car0 c.toNat c h0 (Nat.le_refl _); exact ⟨by rw [carL, a]; simp [valL], b⟩
  | z :: zs, c, h0, hz => by
    have := hz z (by simp)
    obtain ⟨a, b⟩ := valL_car zs ((c + z) / 1000000) (by omega) (fun u hu => hz u (by simp [hu]))
    refine ⟨by simp only [carL, valL, a]; omega, ?_⟩
    intro u hu
    simp only [carL, List.mem_cons] at hu
    rcases hu with rfl | hu
    · omega
    · exact b u hu
theorem valL_sum : ∀ (xs ys : List Int), valL (sumL xs ys) = valL xs + valL ys
  | [], ys => by simp [sumL, valL]
  | x :: xs, [] => by simp [sumL, valL]
  | x :: xs, y :: ys => by simp only [sumL, valL, valL_sum xs ys]; omega

/-- the rest and the limbs of the quotient by two, from the top down -/
def remL : List Int → Int
  | [] => 0
  | x :: xs => (remL xs * 1000000 + x) % 2
def quoL : List Int → List Int
  | [] => []
  | x :: xs => ((remL xs * 1000000 + x) / 2) :: quoL xs
theorem remL_bd : ∀ xs : List Int, 0 ≤ remL xs ∧ remL xs ≤ 1
  | [] => by simp [remL]
  | x :: xs => by simp only [remL]; omega
theorem quoL_len : ∀ xs : List Int, (quoL xs).length = xs.length
  | [] => rfl
  | x :: xs => by simp [quoL, quoL_len xs]
theorem halves : ∀ xs : List Int, limbs xs → valL xs = 2 * valL (quoL xs) + remL xs ∧ limbs (quoL xs)
  | [], _ => ⟨by simp [valL, quoL, remL], by intro u hu; simp [quoL] at hu⟩
  | x :: xs, h => by
    obtain ⟨a, b⟩ := halves xs (limbs_tail h)
    have c := limbs_head h
    have d := remL_bd xs
    refine ⟨by simp only [valL, quoL, remL, a]; omega, ?_⟩
    intro u hu
    simp only [quoL, List.mem_cons] at hu
    rcases hu with rfl | hu
    · omega
    · exact b u hu
def halfTo (xs : List Int) (k : Nat) : List Int := List.replicate k 0 ++ quoL (xs.drop k)
theorem halfTo_len {xs : List Int} {k : Nat} (h : k ≤ xs.length) : (halfTo xs k).length = xs.length := by simp [halfTo, quoL_len]; omega
theorem halfTo_zero (xs : List Int) : halfTo xs 0 = quoL xs := by simp [halfTo]
theorem halfTo_all {xs : List Int} {n : Nat} (h : xs.length = n) : halfTo xs n = List.replicate n 0 := by simp [halfTo, ← h, quoL]
theorem halfTo_set {xs : List Int} {k : Nat} {x : Int} (hx : xs[k]? = some x) : (halfTo xs (k + 1)).set k ((remL (xs.drop (k + 1)) * 1000000 + x) / 2) = halfTo xs k := by
  rw [halfTo, halfTo, drop_at hx, quoL, List.replicate_succ', List.append_assoc, List.set_append]
  simp
theorem remL_at {xs : List Int} {k : Nat} {x : Int} (hx : xs[k]? = some x) : remL (xs.drop k) = (remL (xs.drop (k + 1)) * 1000000 + x) % 2 := by
  rw [drop_at hx, remL]

def signR (xs : List Int) : (Bool × List Int) × Int :=
  if natB xs then ((decide (remL xs = 1), if remL xs = 1 then carL (sumL (trimL (quoL xs)) [1]) 0 else trimL (quoL xs)), 0) else ((false, []), 1)
theorem one_nat : natB [1] = true := by decide
theorem allB_of : ∀ {xs : List Int}, limbs xs → allB 0 999999 xs = true
  | [], _ => rfl
  | x :: xs, h => by
    have := limbs_head h
    rw [allB, inB_of this.1 this.2, allB_of (limbs_tail h)]; rfl
theorem natB_of {xs : List Int} (h : xs.length ≤ 40) (h1 : limbs xs) (h2 : lastOk xs) : natB xs = true := by
  unfold natB
  have : allB 0 999999 xs = true := allB_of h1
  rw [this]
  simp only [lastB, h]
  cases e : xs.getLast? with
  | none => rfl
  | some x => have := h2 x e; simp [this]
theorem half_nat {xs : List Int} (h : natB xs = true) : natB (trimL (quoL xs)) = true := by
  obtain ⟨a, b, c⟩ := natB_parts h
  refine natB_of ?_ (trimL_limbs (halves xs b).2) (trimL_lastOk _)
  have := trimL_len (quoL xs)
  rw [quoL_len] at this
  omega
theorem inc_val {xs : List Int} (h : natB xs = true) : valL (carL (sumL xs [1]) 0) = valL xs + 1 ∧ limbs (carL (sumL xs [1]) 0) ∧ lastOk (carL (sumL xs [1]) 0) := by
  obtain ⟨a, b, c⟩ := natB_parts h
  obtain ⟨d, e⟩ := valL_car (sumL xs [1]) 0 (by omega) (sumL_nonneg xs [1] (fun x hx => (b x hx).1) (by simp))
  refine ⟨by rw [d, valL_sum]; simp [valL], e, ?_⟩
  have := add_trim h one_nat
  rw [← this]
  exact trimL_lastOk _
/-- halving the follower -/
theorem sign_law {xs : List Int} (h : natB xs = true) : (remL (carL (sumL xs [1]) 0) == 0) = decide (remL xs = 1) ∧
    trimL (quoL (carL (sumL xs [1]) 0)) = if remL xs = 1 then carL (sumL (trimL (quoL xs)) [1]) 0 else trimL (quoL xs) := by
  obtain ⟨i1, i2, i3⟩ := inc_val h
  obtain ⟨a, b, c⟩ := natB_parts h
  obtain ⟨h1, h2⟩ := halves xs b
  obtain ⟨h3, h4⟩ := halves (carL (sumL xs [1]) 0) i2
  obtain ⟨j1, j2, j3⟩ := inc_val (half_nat h)
  have r1 := remL_bd xs
  have r2 := remL_bd (carL (sumL xs [1]) 0)
  have v1 := valL_trim (quoL xs)
  have v2 := valL_trim (quoL (carL (sumL xs [1]) 0))
  refine ⟨?_, ?_⟩
  · rw [Bool.eq_iff_iff]; simp; omega
  · split
    · exact valL_inj _ _ (trimL_limbs h4) j2 (trimL_lastOk _) j3 (by omega)
    · exact valL_inj _ _ (trimL_limbs h4) (trimL_limbs h2) (trimL_lastOk _) (trimL_lastOk _) (by omega)
end Go.Proofs.Ytbpeagnldgefeaa
