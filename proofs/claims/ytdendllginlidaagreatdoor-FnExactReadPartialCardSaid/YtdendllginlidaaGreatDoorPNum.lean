/-
  Decimal numbers read and written, in plain Lean: both readers answer alike. Nothing of the program.
-/
import Derived.Lib.ParseIntBCases
import Derived.Lib.ItoaMem
namespace Go.Proofs.YtdendllginlidaaGreatDoor

/-- the number that digits spell behind what was read -/
def digsD (acc : Nat) : List UInt8 → Option Nat
  | [] => some acc
  | c :: r => if 48 ≤ c.toNat ∧ c.toNat ≤ 57 then digsD (acc * 10 + (c.toNat - 48)) r else none
def magD (r s : List UInt8) : Option Nat := if r = [] ∨ 18 < r.length ∨ (r.head? = some 48 ∧ 1 < s.length) then none else digsD 0 r
def tlD (s : List UInt8) : List UInt8 := if s.head? = some 45 then s.tail else s
/-- the reference's reader of a number -/
def numD (s : List UInt8) : Option Int := (magD (tlD s) s).map fun (u : Nat) => if s.head? = some 45 then -(u : Int) else (u : Int)
/-- the program's reader of a number -/
def rdP (s : List UInt8) : Option Int := match Lib.parseIntB 64 s with
  | .ok n => if Lib.itoa n = s ∧ (tlD s).length ≤ 18 then some n else none
  | _ => none
theorem digsD_app : ∀ (l : List UInt8) (acc : Nat) (c : UInt8), digsD acc (l ++ [c]) = (digsD acc l).bind fun a => if 48 ≤ c.toNat ∧ c.toNat ≤ 57 then some (a * 10 + (c.toNat - 48)) else none
  | [], acc, c => by simp [digsD]
  | d :: l, acc, c => by
    rw [List.cons_append, digsD, digsD]
    split
    · exact digsD_app l _ c
    · rfl
theorem digsD_ge : ∀ (l : List UInt8) (acc u : Nat), digsD acc l = some u → acc ≤ u
  | [], acc, u, h => by rw [digsD] at h; injection h with h; omega
  | c :: l, acc, u, h => by
    rw [digsD] at h
    split at h
    · have := digsD_ge l _ u h; omega
    · cases h
theorem digsD_bd : ∀ (l : List UInt8) (acc u : Nat), digsD acc l = some u → u < (acc + 1) * 10 ^ l.length
  | [], acc, u, h => by rw [digsD] at h; injection h with h; simp; omega
  | c :: l, acc, u, h => by
    rw [digsD] at h
    split at h
    · have h1 := digsD_bd l _ u h
      rw [List.length_cons, Nat.pow_succ]
      have h2 : (acc * 10 + (c.toNat - 48) + 1) * 10 ^ l.length ≤ ((acc + 1) * 10) * 10 ^ l.length := Nat.mul_le_mul_right _ (by omega)
      have h3 : ((acc + 1) * 10) * 10 ^ l.length = (acc + 1) * (10 ^ l.length * 10) := by rw [Nat.mul_assoc, Nat.mul_comm 10]
      omega
    · cases h
theorem dec_small {u : Nat} (h : u < 10) : Lib.decDigits u = [UInt8.ofNat (48 + u)] := by rw [Lib.decDigits, dif_pos h]
theorem dec_big {u : Nat} (h : ¬ u < 10) : Lib.decDigits u = Lib.decDigits (u / 10) ++ [UInt8.ofNat (48 + u % 10)] := by rw [Lib.decDigits, dif_neg h]
theorem dig_nat {d : Nat} (h : d < 10) : (UInt8.ofNat (48 + d)).toNat = 48 + d := by rw [UInt8.toNat_ofNat']; omega
theorem digsD_dec (u : Nat) : digsD 0 (Lib.decDigits u) = some u := by
  have all : ∀ n u : Nat, u ≤ n → digsD 0 (Lib.decDigits u) = some u := by
    intro n
    induction n with
    | zero => intro u hu; rw [dec_small (by omega), digsD, dig_nat (by omega), if_pos (by omega), digsD]; congr 1; omega
    | succ n ih =>
      intro u hu
      by_cases h : u < 10
      · rw [dec_small h, digsD, dig_nat h, if_pos (by omega), digsD]; congr 1; omega
      · rw [dec_big h, digsD_app, ih (u / 10) (by omega), Option.bind_some, dig_nat (by omega), if_pos (by omega)]; congr 1; omega
  exact all u u (Nat.le_refl _)
theorem dec_ne (u : Nat) : Lib.decDigits u ≠ [] := by
  by_cases h : u < 10
  · rw [dec_small h]; simp
  · rw [dec_big h]; simp
theorem dec_head (u : Nat) : ∃ c r, Lib.decDigits u = c :: r ∧ 48 ≤ c.toNat ∧ c.toNat ≤ 57 ∧ (c = 48 → u = 0) := by
  have all : ∀ n u : Nat, u ≤ n → ∃ c r, Lib.decDigits u = c :: r ∧ 48 ≤ c.toNat ∧ c.toNat ≤ 57 ∧ (c = 48 → u = 0) := by
    intro n
    induction n with
    | zero =>
      intro u hu
      exact ⟨_, _, dec_small (by omega), by rw [dig_nat (by omega)]; omega, by rw [dig_nat (by omega)]; omega, fun _ => by omega⟩
    | succ n ih =>
      intro u hu
      by_cases h : u < 10
      · refine ⟨_, _, dec_small h, by rw [dig_nat h]; omega, by rw [dig_nat h]; omega, fun e => ?_⟩
        have := congrArg UInt8.toNat e
        rw [dig_nat h] at this
        have : (48 : UInt8).toNat = 48 := rfl
        omega
      · obtain ⟨c, r, e, h1, h2, h3⟩ := ih (u / 10) (by omega)
        exact ⟨c, r ++ [UInt8.ofNat (48 + u % 10)], by rw [dec_big h, e]; rfl, h1, h2, fun e => by have := h3 e; omega⟩
  exact all u u (Nat.le_refl _)
/-- digits without a zero ahead are the digits of their number -/
theorem dec_digsD : ∀ (n : Nat) (r : List UInt8) (u : Nat), r.length ≤ n → r ≠ [] → (r.head? = some 48 → r.length = 1) → digsD 0 r = some u → Lib.decDigits u = r
  | 0, r, u, hl, hr, _, _ => absurd (List.length_eq_zero_iff.1 (by omega)) hr
  | n + 1, r, u, hl, hr, h0, hd => by
    obtain ⟨l, c, rfl⟩ : ∃ l c, r = l ++ [c] := ⟨r.dropLast, r.getLast hr, (List.dropLast_concat_getLast hr).symm⟩
    rw [digsD_app] at hd
    cases ha : digsD 0 l with
    | none => rw [ha] at hd; cases hd
    | some a =>
      rw [ha, Option.bind_some] at hd
      split at hd
      · rename_i hc
        injection hd with hd
        have hcc : UInt8.ofNat (48 + (c.toNat - 48)) = c := by rw [show 48 + (c.toNat - 48) = c.toNat by omega]; exact UInt8.ofNat_toNat
        by_cases hl0 : l = []
        · subst hl0
          rw [digsD] at ha
          injection ha with ha
          have hu : u = c.toNat - 48 := by omega
          rw [hu, dec_small (by omega), hcc]; rfl
        · have hh : (l ++ [c]).head? = l.head? := by cases l with
            | nil => exact absurd rfl hl0
            | cons d l => rfl
          have hlp := List.length_pos_iff.2 hl0
          rw [hh] at h0
          have hn48 : l.head? ≠ some 48 := fun e => by have := h0 e; rw [List.length_append, List.length_singleton] at this; omega
          have ih := dec_digsD n l a (by rw [List.length_append, List.length_singleton] at hl; omega) hl0 (fun e => absurd e hn48) ha
          have ha1 : a ≠ 0 := fun e => by
            subst e
            rw [dec_small (by omega)] at ih
            rw [← ih] at hn48
            exact hn48 rfl
          rw [dec_big (show ¬ u < 10 by omega), show u / 10 = a by omega, show u % 10 = c.toNat - 48 by omega, ih, hcc]
      · cases hd
theorem parse_digsD {M : Nat} (hM : M ≤ 18446744073709551615) : ∀ (r : List UInt8) (acc u : Nat), digsD acc r = some u → u ≤ M → Lib.parseUintM M acc r = .ok u
  | [], acc, u, h, _ => by rw [digsD] at h; injection h with h; rw [Lib.parseUintM, h]
  | c :: r, acc, u, h, hu => by
    rw [digsD] at h
    split at h
    · rename_i hc
      have := digsD_ge r _ u h
      rw [Lib.parseUintM, if_pos hc, if_neg (by omega), if_neg (by omega)]
      exact parse_digsD hM r _ u h hu
    · cases h
theorem digsD_parse {M : Nat} : ∀ (r : List UInt8) (acc u : Nat), Lib.parseUintM M acc r = .ok u → digsD acc r = some u
  | [], acc, u, h => by rw [Lib.parseUintM] at h; injection h with h; rw [digsD, h]
  | c :: r, acc, u, h => by
    rw [Lib.parseUintM] at h
    split at h
    · rename_i hc
      split at h
      · cases h
      · split at h
        · cases h
        · rw [digsD, if_pos hc]; exact digsD_parse r _ u h
    · cases h
theorem tlD_neg (r : List UInt8) : tlD (45 :: r) = r := rfl
theorem tlD_pos {c : UInt8} (r : List UInt8) (h : c ≠ 45) : tlD (c :: r) = c :: r := by rw [tlD, if_neg (by simpa using h)]
theorem u8_ne {c : UInt8} {k : Nat} (h : c ≠ UInt8.ofNat k) : c.toNat ≠ k := fun e => h (by rw [← e]; exact UInt8.ofNat_toNat.symm)
/-- the reference reads a number: what it gives has that text -/
theorem numD_some {s : List UInt8} {n : Int} (h : numD s = some n) : Lib.itoa n = s ∧ (tlD s).length ≤ 18 ∧ Lib.parseIntB 64 s = .ok n ∧ -1000000000000000000 < n ∧ n < 1000000000000000000 := by
  unfold numD magD at h
  by_cases hc : tlD s = [] ∨ 18 < (tlD s).length ∨ ((tlD s).head? = some 48 ∧ 1 < s.length)
  · rw [if_pos hc] at h; cases h
  · rw [if_neg hc] at h
    have hr : tlD s ≠ [] := fun e => hc (.inl e)
    have hl : (tlD s).length ≤ 18 := Nat.le_of_not_lt fun e => hc (.inr (.inl e))
    have hz : ¬ ((tlD s).head? = some 48 ∧ 1 < s.length) := fun e => hc (.inr (.inr e))
    cases hd : digsD 0 (tlD s) with
    | none => rw [hd] at h; cases h
    | some u =>
      rw [hd, Option.map_some] at h
      injection h with h
      have hb := digsD_bd _ _ _ hd
      have hb2 : u < 1000000000000000000 := by
        have : (10 : Nat) ^ (tlD s).length ≤ 10 ^ 18 := Nat.pow_le_pow_right (by omega) hl
        omega
      cases s with
      | nil => exact absurd rfl hr
      | cons c r =>
        by_cases h45 : c = 45
        · subst h45
          rw [tlD_neg] at hr hl hz hd
          rw [if_pos (show (45 :: r).head? = some 45 from rfl)] at h
          have hdec := dec_digsD r.length r u (Nat.le_refl _) hr (fun e => by
            have : ¬ 1 < (45 :: r).length := fun q => hz ⟨e, q⟩
            rw [List.length_cons] at this
            have := List.length_pos_iff.2 hr; omega) hd
          have hu : 1 ≤ u := by
            rcases Nat.eq_zero_or_pos u with e | e
            · subst e
              rw [dec_small (by omega)] at hdec
              exact absurd ⟨by rw [← hdec]; rfl, by rw [← hdec]; decide⟩ hz
            · exact e
          refine ⟨by rw [← h, Lib.itoa_neg u hu, hdec], by rw [tlD_neg]; exact hl, ?_, by omega, by omega⟩
          rw [Lib.parseIntB_minus, Lib.parseUintB, if_neg hr, parse_digsD (by decide) r 0 u hd (by omega), Lib.signedC, if_neg (by omega), h]
        · rw [tlD_pos r h45] at hr hl hz hd
          rw [if_neg (by simpa using h45)] at h
          have hdec := dec_digsD (c :: r).length (c :: r) u (Nat.le_refl _) hr (fun e => by
            have : ¬ 1 < (c :: r).length := fun q => hz ⟨e, q⟩
            have := List.length_pos_iff.2 hr; omega) hd
          have h43 : c.toNat ≠ 43 := by
            obtain ⟨d, q, e, g1, _⟩ := dec_head u
            rw [hdec] at e; injection e with e _; subst e; omega
          have h45' : c.toNat ≠ 45 := by
            obtain ⟨d, q, e, g1, _⟩ := dec_head u
            rw [hdec] at e; injection e with e _; subst e; omega
          refine ⟨by rw [← h, Lib.itoa_nonneg, hdec], by rw [tlD_pos r h45]; exact hl, ?_, by omega, by omega⟩
          rw [Lib.parseIntB_plain 64 c r h43 h45', Lib.parseUintB, if_neg hr, parse_digsD (by decide) _ 0 u hd (by omega), Lib.signlessC, if_neg (by omega), h]
theorem itoa_cases (n : Int) : (∃ u : Nat, n = u ∧ Lib.itoa n = Lib.decDigits u) ∨ (∃ u : Nat, 1 ≤ u ∧ n = -(u : Int) ∧ Lib.itoa n = 45 :: Lib.decDigits u) := by
  by_cases h : 0 ≤ n
  · obtain ⟨u, rfl⟩ : ∃ u : Nat, n = u := ⟨n.toNat, by omega⟩
    exact .inl ⟨u, rfl, Lib.itoa_nonneg u⟩
  · obtain ⟨u, rfl⟩ : ∃ u : Nat, n = -(u : Int) := ⟨(-n).toNat, by omega⟩
    exact .inr ⟨u, by omega, rfl, Lib.itoa_neg u (by omega)⟩
theorem numD_itoa {n : Int} (hl : (tlD (Lib.itoa n)).length ≤ 18) : numD (Lib.itoa n) = some n := by
  rcases itoa_cases n with ⟨u, rfl, e⟩ | ⟨u, hu, rfl, e⟩
  · obtain ⟨c, r, e2, h1, h2, h3⟩ := dec_head u
    have h45 : c ≠ 45 := fun q => by subst q; have : (45 : UInt8).toNat = 45 := rfl; omega
    have hd := digsD_dec u
    rw [e, e2] at hl ⊢
    rw [e2] at hd
    rw [tlD_pos r h45] at hl
    rw [numD, tlD_pos r h45, magD, if_neg, hd, Option.map_some, if_neg (by simpa using h45)]
    rintro (q | q | ⟨q, q2⟩)
    · cases q
    · omega
    · injection q with q
      have := h3 q
      subst this
      rw [dec_small (by omega)] at e2
      injection e2 with _ e3
      subst e3
      simp at q2
  · obtain ⟨c, r, e2, h1, h2, h3⟩ := dec_head u
    have hd := digsD_dec u
    rw [e] at hl ⊢
    rw [tlD_neg] at hl
    rw [numD, tlD_neg, magD, if_neg, hd, Option.map_some, if_pos (show (45 :: Lib.decDigits u).head? = some 45 from rfl)]
    rintro (q | q | ⟨q, q2⟩)
    · exact dec_ne u q
    · omega
    · rw [e2] at q
      injection q with q
      have := h3 q; omega
theorem rdP_eq (s : List UInt8) : rdP s = numD s := by
  unfold rdP
  cases hn : numD s with
  | some n =>
    obtain ⟨h1, h2, h3, _⟩ := numD_some hn
    rw [h3]; simp only; rw [if_pos ⟨h1, h2⟩]
  | none =>
    rcases hp : Lib.parseIntB 64 s with n | _ | _
    · simp only
      rw [if_neg]
      rintro ⟨h1, h2⟩
      rw [← h1] at h2
      have := numD_itoa h2
      rw [h1, hn] at this; cases this
    · rfl
    · rfl
theorem numD_text {n : Int} (h : -1000000000000000000 < n ∧ n < 1000000000000000000) : numD (Lib.itoa n) = some n := by
  have hl : ∀ u : Nat, u < 1000000000000000000 → (Lib.decDigits u).length ≤ 18 := by
    have all : ∀ k u : Nat, u < 10 ^ (k + 1) → (Lib.decDigits u).length ≤ k + 1 := by
      intro k
      induction k with
      | zero => intro u hu; rw [dec_small (by omega)]; simp
      | succ k ih =>
        intro u hu
        by_cases h : u < 10
        · rw [dec_small h]; simp
        · rw [dec_big h, List.length_append, List.length_singleton]
          have := ih (u / 10) (by rw [Nat.pow_succ] at hu; omega)
          omega
    exact fun u hu => all 17 u (by omega)
  refine numD_itoa ?_
  rcases itoa_cases n with ⟨u, rfl, e⟩ | ⟨u, hu, rfl, e⟩
  · obtain ⟨c, r, e2, h1, h2, h3⟩ := dec_head u
    have h45 : c ≠ 45 := fun q => by subst q; have : (45 : UInt8).toNat = 45 := rfl; omega
    rw [e, e2, tlD_pos r h45, ← e2]
    exact hl u (by omega)
  · rw [e, tlD_neg]
    exact hl u (by omega)
theorem itoa_mem {n : Int} {b : UInt8} (h : b ∈ Lib.itoa n) : b = 45 ∨ (48 ≤ b.toNat ∧ b.toNat ≤ 57) := by
  have dec : ∀ k u : Nat, u ≤ k → ∀ b ∈ Lib.decDigits u, 48 ≤ b.toNat ∧ b.toNat ≤ 57 := by
    intro k
    induction k with
    | zero => intro u hu b hb; rw [dec_small (by omega), List.mem_singleton] at hb; subst hb; rw [dig_nat (by omega)]; omega
    | succ k ih =>
      intro u hu b hb
      by_cases h : u < 10
      · rw [dec_small h, List.mem_singleton] at hb; subst hb; rw [dig_nat h]; omega
      · rw [dec_big h] at hb
        rcases List.mem_append.1 hb with hb | hb
        · exact ih (u / 10) (by omega) b hb
        · rw [List.mem_singleton] at hb; subst hb; rw [dig_nat (by omega)]; omega
  rcases itoa_cases n with ⟨u, _, e⟩ | ⟨u, _, _, e⟩
  · rw [e] at h; exact .inr (dec u u (Nat.le_refl _) b h)
  · rw [e] at h
    rcases List.mem_cons.1 h with rfl | h
    · exact .inl rfl
    · exact .inr (dec u u (Nat.le_refl _) b h)
theorem itoa_not {n : Int} {c : UInt8} (h45 : c ≠ 45) (hc : c.toNat < 48 ∨ 57 < c.toNat) : c ∉ Lib.itoa n := fun h => by
  rcases itoa_mem h with e | e
  · exact h45 e
  · omega
end Go.Proofs.YtdendllginlidaaGreatDoor
