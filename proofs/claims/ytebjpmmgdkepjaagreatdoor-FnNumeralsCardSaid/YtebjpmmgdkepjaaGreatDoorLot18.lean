/-
  Parts of the proof, one behind the other: contracts of the functions that the law reaches, and plain laws.
-/
import Derived.Lib.ParseIntBCases
import Derived.Lib.ItoaMem
import Derived.Lib.Split
import Derived.Lib.Replace
import Derived.Lib.CountLaws
import Derived.Lib.IndexMore
import Derived.Lib.Join
import Derived.Test.YtebjpmmgdkepjaaGreatDoorLot15
/-
  Decimal numbers read and written, in plain Lean: both readers answer alike. Nothing of the program.
-/
namespace Go.Proofs.YtebjpmmgdkepjaaGreatDoor

/-- the number that digits spell behind what was read -/
def digsD (acc : Nat) : List UInt8 → Option Nat
  | [] => some acc
  | c :: r => if 48 ≤ c.toNat ∧ c.toNat ≤ 57 then digsD (acc * 10 + (c.toNat - 48)) r else none
def magD (r s : List UInt8) : Option Nat := if r = [] ∨ 18 < r.length ∨ (r.head? = some 48 ∧ 1 < s.length) then none else digsD 0 r
def tlD (s : List UInt8) : List UInt8 := if s.head? = some 45 then s.tail else s
/-- the reference's reader of a number -/
def numD (s : List UInt8) : Option Int := (magD (tlD s) s).map fun (u : Nat) => if s.head? = some 45 then -(u : Int) else (u : Int)
/-- the program's reader of a number -/
def rdP (s : List UInt8) : Option Int := match Lib.parseIntB 64 s with
  | .ok n => if Lib.itoa n = s ∧ (tlD s).length ≤ 18 then some n else none
  | _ => none
theorem digsD_app : ∀ (l : List UInt8) (acc : Nat) (c : UInt8), digsD acc (l ++ [c]) = (digsD acc l).bind fun a => if 48 ≤ c.toNat ∧ c.toNat ≤ 57 then some (a * 10 + (c.toNat - 48)) else none
  | [], acc, c => by simp [digsD]
  | d :: l, acc, c => by
    rw [List.cons_append, digsD, digsD]
    split
    · exact digsD_app l _ c
    · rfl
theorem digsD_ge : ∀ (l : List UInt8) (acc u : Nat), digsD acc l = some u → acc ≤ u
  | [], acc, u, h => by rw [digsD] at h; injection h with h; omega
  | c :: l, acc, u, h => by
    rw [digsD] at h
    split at h
    · have := digsD_ge l _ u h; omega
    · cases h
theorem digsD_bd : ∀ (l : List UInt8) (acc u : Nat), digsD acc l = some u → u < (acc + 1) * 10 ^ l.length
  | [], acc, u, h => by rw [digsD] at h; injection h with h; simp; omega
  | c :: l, acc, u, h => by
    rw [digsD] at h
    split at h
    · have h1 := digsD_bd l _ u h
      rw [List.length_cons, Nat.pow_succ]
      have h2 : (acc * 10 + (c.toNat - 48) + 1) * 10 ^ l.length ≤ ((acc + 1) * 10) * 10 ^ l.length := Nat.mul_le_mul_right _ (by omega)
      have h3 : ((acc + 1) * 10) * 10 ^ l.length = (acc + 1) * (10 ^ l.length * 10) := by rw [Nat.mul_assoc, Nat.mul_comm 10]
      omega
    · cases h
theorem dec_small {u : Nat} (h : u < 10) : Lib.decDigits u = [UInt8.ofNat (48 + u)] := by rw [Lib.decDigits, dif_pos h]
theorem dec_big {u : Nat} (h : ¬ u < 10) : Lib.decDigits u = Lib.decDigits (u / 10) ++ [UInt8.ofNat (48 + u % 10)] := by rw [Lib.decDigits, dif_neg h]
theorem dig_nat {d : Nat} (h : d < 10) : (UInt8.ofNat (48 + d)).toNat = 48 + d := by rw [UInt8.toNat_ofNat']; omega
theorem digsD_dec (u : Nat) : digsD 0 (Lib.decDigits u) = some u := by
  have all : ∀ n u : Nat, u ≤ n → digsD 0 (Lib.decDigits u) = some u := by
    intro n
    induction n with
    | zero => intro u hu; rw [dec_small (by omega), digsD, dig_nat (by omega), if_pos (by omega), digsD]; congr 1; omega
    | succ n ih =>
      intro u hu
      by_cases h : u < 10
      · rw [dec_small h, digsD, dig_nat h, if_pos (by omega), digsD]; congr 1; omega
      · rw [dec_big h, digsD_app, ih (u / 10) (by omega), Option.bind_some, dig_nat (by omega), if_pos (by omega)]; congr 1; omega
  exact all u u (Nat.le_refl _)
theorem dec_ne (u : Nat) : Lib.decDigits u ≠ [] := by
  by_cases h : u < 10
  · rw [dec_small h]; simp
  · rw [dec_big h]; simp
theorem dec_head (u : Nat) : ∃ c r, Lib.decDigits u = c :: r ∧ 48 ≤ c.toNat ∧ c.toNat ≤ 57 ∧ (c = 48 → u = 0) := by
  have all : ∀ n u : Nat, u ≤ n → ∃ c r, Lib.decDigits u = c :: r ∧ 48 ≤ c.toNat ∧ c.toNat ≤ 57 ∧ (c = 48 → u = 0) := by
    intro n
    induction n with
    | zero =>
      intro u hu
      exact ⟨_, _, dec_small (by omega), by rw [dig_nat (by omega)]; omega, by rw [dig_nat (by omega)]; omega, fun _ => by omega⟩
    | succ n ih =>
      intro u hu
      by_cases h : u < 10
      · refine ⟨_, _, dec_small h, by rw [dig_nat h]; omega, by rw [dig_nat h]; omega, fun e => ?_⟩
        have := congrArg UInt8.toNat e
        rw [dig_nat h] at this
        have : (48 : UInt8).toNat = 48 := rfl
        omega
      · obtain ⟨c, r, e, h1, h2, h3⟩ := ih (u / 10) (by omega)
        exact ⟨c, r ++ [UInt8.ofNat (48 + u % 10)], by rw [dec_big h, e]; rfl, h1, h2, fun e => by have := h3 e; omega⟩
  exact all u u (Nat.le_refl _)
/-- digits without a zero ahead are the digits of their number -/
theorem dec_digsD : ∀ (n : Nat) (r : List UInt8) (u : Nat), r.length ≤ n → r ≠ [] → (r.head? = some 48 → r.length = 1) → digsD 0 r = some u → Lib.decDigits u = r
  | 0, r, u, hl, hr, _, _ => absurd (List.length_eq_zero_iff.1 (by omega)) hr
  | n + 1, r, u, hl, hr, h0, hd => by
    obtain ⟨l, c, rfl⟩ : ∃ l c, r = l ++ [c] := ⟨r.dropLast, r.getLast hr, (List.dropLast_concat_getLast hr).symm⟩
    rw [digsD_app] at hd
    cases ha : digsD 0 l with
    | none => rw [ha] at hd; cases hd
    | some a =>
      rw [ha, Option.bind_some] at hd
      split at hd
      · rename_i hc
        injection hd with hd
        have hcc : UInt8.ofNat (48 + (c.toNat - 48)) = c := by rw [show 48 + (c.toNat - 48) = c.toNat by omega]; exact UInt8.ofNat_toNat
        by_cases hl0 : l = []
        · subst hl0
          rw [digsD] at ha
          injection ha with ha
          have hu : u = c.toNat - 48 := by omega
          rw [hu, dec_small (by omega), hcc]; rfl
        · have hh : (l ++ [c]).head? = l.head? := by cases l with
            | nil => exact absurd rfl hl0
            | cons d l => rfl
          have hlp := List.length_pos_iff.2 hl0
          rw [hh] at h0
          have hn48 : l.head? ≠ some 48 := fun e => by have := h0 e; rw [List.length_append, List.length_singleton] at this; omega
          have ih := dec_digsD n l a (by rw [List.length_append, List.length_singleton] at hl; omega) hl0 (fun e => absurd e hn48) ha
          have ha1 : a ≠ 0 := fun e => by
            subst e
            rw [dec_small (by omega)] at ih
            rw [← ih] at hn48
            exact hn48 rfl
          rw [dec_big (show ¬ u < 10 by omega), show u / 10 = a by omega, show u % 10 = c.toNat - 48 by omega, ih, hcc]
      · cases hd
theorem parse_digsD {M : Nat} (hM : M ≤ 18446744073709551615) : ∀ (r : List UInt8) (acc u : Nat), digsD acc r = some u → u ≤ M → Lib.parseUintM M acc r = .ok u
  | [], acc, u, h, _ => by rw [digsD] at h; injection h with h; rw [Lib.parseUintM, h]
  | c :: r, acc, u, h, hu => by
    rw [digsD] at h
    split at h
    · rename_i hc
      have := digsD_ge r _ u h
      rw [Lib.parseUintM, if_pos hc, if_neg (by omega), if_neg (by omega)]
      exact parse_digsD hM r _ u h hu
    · cases h
theorem digsD_parse {M : Nat} : ∀ (r : List UInt8) (acc u : Nat), Lib.parseUintM M acc r = .ok u → digsD acc r = some u
  | [], acc, u, h => by rw [Lib.parseUintM] at h; injection h with h; rw [digsD, h]
  | c :: r, acc, u, h => by
    rw [Lib.parseUintM] at h
    split at h
    · rename_i hc
      split at h
      · cases h
      · split at h
        · cases h
        · rw [digsD, if_pos hc]; exact digsD_parse r _ u h
    · cases h
theorem tlD_neg (r : List UInt8) : tlD (45 :: r) = r := rfl
theorem tlD_pos {c : UInt8} (r : List UInt8) (h : c ≠ 45) : tlD (c :: r) = c :: r := by rw [tlD, if_neg (by simpa using h)]
theorem u8_ne {c : UInt8} {k : Nat} (h : c ≠ UInt8.ofNat k) : c.toNat ≠ k := fun e => h (by rw [← e]; exact UInt8.ofNat_toNat.symm)
/-- the reference reads a number: what it gives has that text -/
theorem numD_some {s : List UInt8} {n : Int} (h : numD s = some n) : Lib.itoa n = s ∧ (tlD s).length ≤ 18 ∧ Lib.parseIntB 64 s = .ok n ∧ -1000000000000000000 < n ∧ n < 1000000000000000000 := by
  unfold numD magD at h
  by_cases hc : tlD s = [] ∨ 18 < (tlD s).length ∨ ((tlD s).head? = some 48 ∧ 1 < s.length)
  · rw [if_pos hc] at h; cases h
  · rw [if_neg hc] at h
    have hr : tlD s ≠ [] := fun e => hc (.inl e)
    have hl : (tlD s).length ≤ 18 := Nat.le_of_not_lt fun e => hc (.inr (.inl e))
    have hz : ¬ ((tlD s).head? = some 48 ∧ 1 < s.length) := fun e => hc (.inr (.inr e))
    cases hd : digsD 0 (tlD s) with
    | none => rw [hd] at h; cases h
    | some u =>
      rw [hd, Option.map_some] at h
      injection h with h
      have hb := digsD_bd _ _ _ hd
      have hb2 : u < 1000000000000000000 := by
        have : (10 : Nat) ^ (tlD s).length ≤ 10 ^ 18 := Nat.pow_le_pow_right (by omega) hl
        omega
      cases s with
      | nil => exact absurd rfl hr
      | cons c r =>
        by_cases h45 : c = 45
        · subst h45
          rw [tlD_neg] at hr hl hz hd
          rw [if_pos (show (45 :: r).head? = some 45 from rfl)] at h
          have hdec := dec_digsD r.length r u (Nat.le_refl _) hr (fun e => by
            have : ¬ 1 < (45 :: r).length := fun q => hz ⟨e, q⟩
            rw [List.length_cons] at this
            have := List.length_pos_iff.2 hr; omega) hd
          have hu : 1 ≤ u := by
            rcases Nat.eq_zero_or_pos u with e | e
            · subst e
              rw [dec_small (by omega)] at hdec
              exact absurd ⟨by rw [← hdec]; rfl, by rw [← hdec]; decide⟩ hz
            · exact e
          refine ⟨by rw [← h, Lib.itoa_neg u hu, hdec], by rw [tlD_neg]; exact hl, ?_, by omega, by omega⟩
          rw [Lib.parseIntB_minus, Lib.parseUintB, if_neg hr, parse_digsD (by decide) r 0 u hd (by omega), Lib.signedC, if_neg (by omega), h]
        · rw [tlD_pos r h45] at hr hl hz hd
          rw [if_neg (by simpa using h45)] at h
          have hdec := dec_digsD (c :: r).length (c :: r) u (Nat.le_refl _) hr (fun e => by
            have : ¬ 1 < (c :: r).length := fun q => hz ⟨e, q⟩
            have := List.length_pos_iff.2 hr; omega) hd
          have h43 : c.toNat ≠ 43 := by
            obtain ⟨d, q, e, g1, _⟩ := dec_head u
            rw [hdec] at e; injection e with e _; subst e; omega
          have h45' : c.toNat ≠ 45 := by
            obtain ⟨d, q, e, g1, _⟩ := dec_head u
            rw [hdec] at e; injection e with e _; subst e; omega
          refine ⟨by rw [← h, Lib.itoa_nonneg, hdec], by rw [tlD_pos r h45]; exact hl, ?_, by omega, by omega⟩
          rw [Lib.parseIntB_plain 64 c r h43 h45', Lib.parseUintB, if_neg hr, parse_digsD (by decide) _ 0 u hd (by omega), Lib.signlessC, if_neg (by omega), h]
theorem itoa_cases (n : Int) : (∃ u : Nat, n = u ∧ Lib.itoa n = Lib.decDigits u) ∨ (∃ u : Nat, 1 ≤ u ∧ n = -(u : Int) ∧ Lib.itoa n = 45 :: Lib.decDigits u) := by
  by_cases h : 0 ≤ n
  · obtain ⟨u, rfl⟩ : ∃ u : Nat, n = u := ⟨n.toNat, by omega⟩
    exact .inl ⟨u, rfl, Lib.itoa_nonneg u⟩
  · obtain ⟨u, rfl⟩ : ∃ u : Nat, n = -(u : Int) := ⟨(-n).toNat, by omega⟩
    exact .inr ⟨u, by omega, rfl, Lib.itoa_neg u (by omega)⟩
theorem numD_itoa {n : Int} (hl : (tlD (Lib.itoa n)).length ≤ 18) : numD (Lib.itoa n) = some n := by
  rcases itoa_cases n with ⟨u, rfl, e⟩ | ⟨u, hu, rfl, e⟩
  · obtain ⟨c, r, e2, h1, h2, h3⟩ := dec_head u
    have h45 : c ≠ 45 := fun q => by subst q; have : (45 : UInt8).toNat = 45 := rfl; omega
    have hd := digsD_dec u
    rw [e, e2] at hl ⊢
    rw [e2] at hd
    rw [tlD_pos r h45] at hl
    rw [numD, tlD_pos r h45, magD, if_neg, hd, Option.map_some, if_neg (by simpa using h45)]
    rintro (q | q | ⟨q, q2⟩)
    · cases q
    · omega
    · injection q with q
      have := h3 q
      subst this
      rw [dec_small (by omega)] at e2
      injection e2 with _ e3
      subst e3
      simp at q2
  · obtain ⟨c, r, e2, h1, h2, h3⟩ := dec_head u
    have hd := digsD_dec u
    rw [e] at hl ⊢
    rw [tlD_neg] at hl
    rw [numD, tlD_neg, magD, if_neg, hd, Option.map_some, if_pos (show (45 :: Lib.decDigits u).head? = some 45 from rfl)]
    rintro (q | q | ⟨q, q2⟩)
    · exact dec_ne u q
    · omega
    · rw [e2] at q
      injection q with q
      have := h3 q; omega
theorem rdP_eq (s : List UInt8) : rdP s = numD s := by
  unfold rdP
  cases hn : numD s with
  | some n =>
    obtain ⟨h1, h2, h3, _⟩ := numD_some hn
    rw [h3]; simp only; rw [if_pos ⟨h1, h2⟩]
  | none =>
    rcases hp : Lib.parseIntB 64 s with n | _ | _
    · simp only
      rw [if_neg]
      rintro ⟨h1, h2⟩
      rw [← h1] at h2
      have := numD_itoa h2
      rw [h1, hn] at this; cases this
    · rfl
    · rfl
theorem numD_text {n : Int} (h : -1000000000000000000 < n ∧ n < 1000000000000000000) : numD (Lib.itoa n) = some n := by
  have hl : ∀ u : Nat, u < 1000000000000000000 → (Lib.decDigits u).length ≤ 18 := by
    have all : ∀ k u : Nat, u < 10 ^ (k + 1) → (Lib.decDigits u).length ≤ k + 1 := by
      intro k
      induction k with
      | zero => intro u hu; rw [dec_small (by omega)]; simp
      | succ k ih =>
        intro u hu
        by_cases h : u < 10
        · rw [dec_small h]; simp
        · rw [dec_big h, List.length_append, List.length_singleton]
          have := ih (u / 10) (by rw [Nat.pow_succ] at hu; omega)
          omega
    exact fun u hu => all 17 u (by omega)
  refine numD_itoa ?_
  rcases itoa_cases n with ⟨u, rfl, e⟩ | ⟨u, hu, rfl, e⟩
  · obtain ⟨c, r, e2, h1, h2, h3⟩ := dec_head u
    have h45 : c ≠ 45 := fun q => by subst q; have : (45 : UInt8).toNat = 45 := rfl; omega
    rw [e, e2, tlD_pos r h45, ← e2]
    exact hl u (by omega)
  · rw [e, tlD_neg]
    exact hl u (by omega)
theorem itoa_mem {n : Int} {b : UInt8} (h : b ∈ Lib.itoa n) : b = 45 ∨ (48 ≤ b.toNat ∧ b.toNat ≤ 57) := by
  have dec : ∀ k u : Nat, u ≤ k → ∀ b ∈ Lib.decDigits u, 48 ≤ b.toNat ∧ b.toNat ≤ 57 := by
    intro k
    induction k with
    | zero => intro u hu b hb; rw [dec_small (by omega), List.mem_singleton] at hb; subst hb; rw [dig_nat (by omega)]; omega
    | succ k ih =>
      intro u hu b hb
      by_cases h : u < 10
      · rw [dec_small h, List.mem_singleton] at hb; subst hb; rw [dig_nat h]; omega
      · rw [dec_big h] at hb
        rcases List.mem_append.1 hb with hb | hb
        · exact ih (u / 10) (by omega) b hb
        · rw [List.mem_singleton] at hb; subst hb; rw [dig_nat (by omega)]; omega
  rcases itoa_cases n with ⟨u, _, e⟩ | ⟨u, _, _, e⟩
  · rw [e] at h; exact .inr (dec u u (Nat.le_refl _) b h)
  · rw [e] at h
    rcases List.mem_cons.1 h with rfl | h
    · exact .inl rfl
    · exact .inr (dec u u (Nat.le_refl _) b h)
theorem itoa_not {n : Int} {c : UInt8} (h45 : c ≠ 45) (hc : c.toNat < 48 ∨ 57 < c.toNat) : c ∉ Lib.itoa n := fun h => by
  rcases itoa_mem h with e | e
  · exact h45 e
  · omega
end Go.Proofs.YtebjpmmgdkepjaaGreatDoor
/-
  Texts divided at a byte, in plain Lean: the library's words (split, cut, replaceAll) and the plain ones. Nothing of the program.
-/
namespace Go.Proofs.YtebjpmmgdkepjaaGreatDoor

/-- the parts of a text between a byte -/
def spl (c : UInt8) : List UInt8 → List (List UInt8)
  | [] => [[]]
  | b :: l => if b = c then [] :: spl c l else ((spl c l).head?.map (b :: ·)).toList ++ (spl c l).tail
theorem spl_ne (c : UInt8) (s : List UInt8) : spl c s ≠ [] := by
  cases s with
  | nil => simp [spl]
  | cons b l =>
    rw [spl]
    split
    · simp
    · have := spl_ne c l
      cases h : spl c l with
      | nil => exact absurd h this
      | cons x xs => simp
theorem spl_other {c b : UInt8} {l x : List UInt8} {xs : List (List UInt8)} (h : b ≠ c) (hs : spl c l = x :: xs) : spl c (b :: l) = (b :: x) :: xs := by
  rw [spl, if_neg h, hs]; rfl
theorem spl_none {c : UInt8} : ∀ {s : List UInt8}, c ∉ s → spl c s = [s]
  | [], _ => rfl
  | b :: l, h => by
    rw [List.mem_cons, not_or] at h
    exact spl_other (fun e => h.1 e.symm) (spl_none h.2)
theorem spl_at {c : UInt8} (b : List UInt8) : ∀ {a : List UInt8}, c ∉ a → spl c (a ++ c :: b) = a :: spl c b
  | [], _ => by rw [List.nil_append, spl, if_pos rfl]
  | d :: a, h => by
    rw [List.mem_cons, not_or] at h
    exact spl_other (fun e => h.1 e.symm) (spl_at b h.2)
/-- an induction over the parts -/
theorem spl_ind {c : UInt8} {P : List UInt8 → Prop} (h0 : ∀ s, c ∉ s → P s) (h1 : ∀ a b, c ∉ a → P b → P (a ++ c :: b)) (s : List UInt8) : P s := by
  have all : ∀ n s, s.length ≤ n → P s := by
    intro n
    induction n with
    | zero => intro s hs; obtain rfl := List.length_eq_zero_iff.1 (show s.length = 0 by omega); exact h0 _ (by simp)
    | succ n ih =>
      intro s hs
      by_cases hc : c ∈ s
      · obtain ⟨a, b, rfl, ha⟩ := List.eq_append_cons_of_mem hc
        exact h1 a b ha (ih b (by rw [List.length_append, List.length_cons] at hs; omega))
      · exact h0 s hc
  exact all _ s (Nat.le_refl _)
theorem spl_mem (c : UInt8) (s : List UInt8) : ∀ x ∈ spl c s, c ∉ x := by
  refine spl_ind (c := c) (P := fun s => ∀ x ∈ spl c s, c ∉ x) (fun s h x hx => ?_) (fun a b ha ih x hx => ?_) s
  · rw [spl_none h, List.mem_singleton] at hx; subst hx; exact h
  · rw [spl_at b ha] at hx
    rcases List.mem_cons.1 hx with rfl | hx
    · exact ha
    · exact ih x hx
theorem joinT_cons (c : UInt8) (x : List UInt8) (r : List (List UInt8)) : Lib.joinTail [c] (x :: r) = c :: x ++ Lib.joinTail [c] r := by simp [Lib.joinTail]
theorem join_spl (c : UInt8) (s : List UInt8) : Lib.join (spl c s) [c] = s := by
  refine spl_ind (c := c) (P := fun s => Lib.join (spl c s) [c] = s) (fun s h => ?_) (fun a b ha ih => ?_) s
  · rw [spl_none h, Lib.join_one]
  · rw [spl_at b ha]
    cases hs : spl c b with
    | nil => exact absurd hs (spl_ne c b)
    | cons x xs =>
      rw [hs, Lib.join_cons] at ih
      rw [Lib.join_cons, joinT_cons, List.cons_append, ih]
theorem spl_join {c : UInt8} : ∀ {L : List (List UInt8)}, L ≠ [] → (∀ x ∈ L, c ∉ x) → spl c (Lib.join L [c]) = L
  | [], h, _ => absurd rfl h
  | [x], _, h => by rw [Lib.join_one]; exact spl_none (h x (by simp))
  | x :: y :: r, _, h => by
    rw [Lib.join_cons, joinT_cons, List.cons_append, spl_at _ (h x (by simp)), ← Lib.join_cons, spl_join (by simp) fun z hz => h z (List.mem_cons_of_mem _ hz)]
theorem spl_len (c : UInt8) (s : List UInt8) : (spl c s).length = s.count c + 1 := by
  refine spl_ind (c := c) (P := fun s => (spl c s).length = s.count c + 1) (fun s h => ?_) (fun a b ha ih => ?_) s
  · rw [spl_none h, List.count_eq_zero.2 h]; rfl
  · rw [spl_at b ha, List.length_cons, ih, List.count_append, List.count_cons_self, List.count_eq_zero.2 ha]; omega
/-! ### the library's words -/
theorem idx1_miss {c : UInt8} : ∀ {s : List UInt8}, c ∉ s → Lib.index s [c] = -1
  | [], _ => rfl
  | b :: l, h => by
    rw [List.mem_cons, not_or] at h
    have hp : List.isPrefixOf [c] (b :: l) = false := by simp [List.isPrefixOf]; exact h.1
    rw [Lib.index, hp, if_neg (by simp), idx1_miss h.2]; rfl
theorem idx1_hit {c : UInt8} (b : List UInt8) : ∀ {a : List UInt8}, c ∉ a → Lib.index (a ++ c :: b) [c] = a.length
  | [], _ => by
    have hp : List.isPrefixOf [c] (c :: b) = true := by simp [List.isPrefixOf]
    rw [List.nil_append, Lib.index, if_pos hp]; rfl
  | d :: a, h => by
    rw [List.mem_cons, not_or] at h
    have hp : List.isPrefixOf [c] (d :: (a ++ c :: b)) = false := by simp [List.isPrefixOf]; exact h.1
    rw [List.cons_append, Lib.index, hp, if_neg (by simp), idx1_hit b h.2, if_neg (by simp <;> omega), List.length_cons]; rfl
theorem count1 (c : UInt8) (s : List UInt8) : Lib.count s [c] = s.count c := by
  refine spl_ind (c := c) (P := fun s => Lib.count s [c] = s.count c) (fun s h => ?_) (fun a b ha ih => ?_) s
  · rw [Lib.count_miss (idx1_miss h), List.count_eq_zero.2 h]
  · rw [Lib.count_hit (by simp) (idx1_hit b ha), List.count_append, List.count_cons_self, List.count_eq_zero.2 ha]
    have : (a ++ c :: b).drop (a.length + [c].length) = b := by simp
    rw [this, ih]; omega
theorem splitK1 (c : UInt8) (s : List UInt8) : ∀ k, s.count c ≤ k → Lib.splitK [c] 0 k s = spl c s := by
  refine spl_ind (c := c) (P := fun s => ∀ k, s.count c ≤ k → Lib.splitK [c] 0 k s = spl c s) (fun s h k _ => ?_) (fun a b ha ih k hk => ?_) s
  · cases k with
    | zero => rw [spl_none h]; rfl
    | succ k => rw [Lib.splitK, idx1_miss h, spl_none h]; rfl
  · rw [List.count_append, List.count_cons_self, List.count_eq_zero.2 ha] at hk
    obtain ⟨k, rfl⟩ : ∃ j, k = j + 1 := ⟨k - 1, by omega⟩
    have e : (a ++ c :: b).drop (a.length + [c].length) = b := by simp
    rw [Lib.splitK, idx1_hit b ha, if_neg (by simp <;> omega), Int.toNat_natCast, Nat.add_zero, e, ih k (by omega), spl_at b ha]
    simp
theorem splitB1 (c : UInt8) (s : ByteArray) : (Lib.splitB ⟨#[c]⟩ 0 (Lib.countB s ⟨#[c]⟩) s).map (·.data.toList) = spl c s.data.toList := by
  rw [Lib.splitB_data]
  exact splitK1 c _ _ (by show _ ≤ Lib.count s.data.toList [c]; rw [count1]; exact Nat.le_refl _)
theorem countB1 (c : UInt8) (s : ByteArray) : Lib.countB s ⟨#[c]⟩ + 1 = (spl c s.data.toList).length := by
  rw [spl_len, ← count1, Lib.countB]
theorem cut1 (c : UInt8) (s : List UInt8) : (c ∉ s → Lib.cut s [c] = (s, [], false)) ∧ ∀ a b, c ∉ a → s = a ++ c :: b → Lib.cut s [c] = (a, b, true) := by
  refine ⟨fun h => ?_, fun a b ha hs => ?_⟩
  · rw [Lib.cut, idx1_miss h, if_neg (by decide)]
  · subst hs
    have e : (a ++ c :: b).drop (a.length + [c].length) = b := by simp
    rw [Lib.cut, idx1_hit b ha, if_pos (by omega), Int.toNat_natCast, e, List.take_left]
theorem replaceK1 {c d : UInt8} (s : List UInt8) : ∀ k, s.count c ≤ k → Lib.replaceK [c] [d] k s = s.map fun x => if x = c then d else x := by
  refine spl_ind (c := c) (P := fun s => ∀ k, s.count c ≤ k → Lib.replaceK [c] [d] k s = s.map fun x => if x = c then d else x) (fun s h k _ => ?_) (fun a b ha ih k hk => ?_) s
  · have hm : (s.map fun x => if x = c then d else x) = s := by
      refine (List.map_congr_left fun x hx => ?_).trans (List.map_id s)
      exact if_neg (fun e : x = c => h (by rw [← e]; exact hx))
    cases k with
    | zero => rw [hm]; rfl
    | succ k => rw [Lib.replaceK, idx1_miss h, hm]; rfl
  · rw [List.count_append, List.count_cons_self, List.count_eq_zero.2 ha] at hk
    obtain ⟨k, rfl⟩ : ∃ j, k = j + 1 := ⟨k - 1, by omega⟩
    have e : (a ++ c :: b).drop (a.length + [c].length) = b := by simp
    have hm : (a.map fun x => if x = c then d else x) = a := by
      refine (List.map_congr_left fun x hx => ?_).trans (List.map_id a)
      exact if_neg (fun e : x = c => ha (by rw [← e]; exact hx))
    rw [Lib.replaceK, idx1_hit b ha, if_neg (by simp <;> omega), Int.toNat_natCast, e, ih k (by omega), List.map_append, List.map_cons, hm, if_pos rfl]
    simp
theorem replaceAll1 {c d : UInt8} (h : c ≠ d) (s : List UInt8) : Lib.replaceAll s [c] [d] = s.map fun x => if x = c then d else x := by
  rw [Lib.replaceAll, Lib.replace, if_neg (by simpa using h), Lib.replaceNum, if_pos (.inl (by decide))]
  exact replaceK1 s _ (by rw [count1]; exact Nat.le_refl _)
/-- divided at two bytes, one after the other, or at one where the other has been replaced -/
theorem spl_repl {c d : UInt8} (s : List UInt8) : spl d (s.map fun x => if x = c then d else x) = (spl c s).flatMap (spl d) := by
  refine spl_ind (c := c) (P := fun s => spl d (s.map fun x => if x = c then d else x) = (spl c s).flatMap (spl d)) (fun s hs => ?_) (fun a b ha ih => ?_) s
  · have hm : (s.map fun x => if x = c then d else x) = s := by
      refine (List.map_congr_left fun x hx => ?_).trans (List.map_id s)
      exact if_neg (fun e : x = c => hs (by rw [← e]; exact hx))
    rw [hm, spl_none hs]; simp
  · have hm : (a.map fun x => if x = c then d else x) = a := by
      refine (List.map_congr_left fun x hx => ?_).trans (List.map_id a)
      exact if_neg (fun e : x = c => ha (by rw [← e]; exact hx))
    rw [List.map_append, List.map_cons, hm, if_pos rfl, spl_at b ha, List.flatMap_cons, ← ih]
    have key : ∀ a q : List UInt8, spl d (a ++ d :: q) = spl d a ++ spl d q := by
      intro a q
      refine spl_ind (c := d) (P := fun a => spl d (a ++ d :: q) = spl d a ++ spl d q) (fun a h => ?_) (fun x y hx ihy => ?_) a
      · rw [spl_at q h, spl_none h]; rfl
      · rw [List.append_assoc, List.cons_append, spl_at _ hx, ihy, spl_at y hx]; rfl
    exact key a _
theorem spl_one {c : UInt8} {s a : List UInt8} (h : spl c s = [a]) : s = a ∧ c ∉ a := by
  have h1 := join_spl c s
  rw [h, Lib.join_one] at h1
  exact ⟨h1.symm, spl_mem c s a (by rw [h]; simp)⟩
theorem spl_two {c : UInt8} {s a b : List UInt8} (h : spl c s = [a, b]) : s = a ++ c :: b ∧ c ∉ a ∧ c ∉ b := by
  have h1 := join_spl c s
  rw [h, Lib.join_cons, joinT_cons] at h1
  exact ⟨by rw [← h1]; simp [Lib.joinTail], spl_mem c s a (by rw [h]; simp), spl_mem c s b (by rw [h]; simp)⟩
theorem join_not {c d : UInt8} (hcd : c ≠ d) : ∀ {L : List (List UInt8)}, (∀ x ∈ L, c ∉ x) → c ∉ Lib.join L [d]
  | [], _ => by rw [Lib.join_nil]; simp
  | [x], h => by rw [Lib.join_one]; exact h x (by simp)
  | x :: y :: r, h => by
    rw [Lib.join_cons, joinT_cons, List.cons_append, ← Lib.join_cons, List.mem_append, List.mem_cons]
    rintro (g | g | g)
    · exact h x (by simp) g
    · exact hcd g
    · exact join_not hcd (fun z hz => h z (List.mem_cons_of_mem _ hz)) g
end Go.Proofs.YtebjpmmgdkepjaaGreatDoor
/-
  All numbers of a list of texts, in plain Lean. Nothing of the program.
-/
namespace Go.Proofs.YtebjpmmgdkepjaaGreatDoor

/-- all numbers of a list of texts -/
def allD : List (List UInt8) → Option (List Int)
  | [] => some []
  | x :: l => match numD x with
    | none => none
    | some n => (allD l).map (n :: ·)
theorem allD_none {x : List UInt8} {l : List (List UInt8)} (h : numD x = none) : allD (x :: l) = none := by rw [allD, h]
theorem allD_some {x : List UInt8} {l : List (List UInt8)} {n : Int} (h : numD x = some n) : allD (x :: l) = (allD l).map (n :: ·) := by rw [allD, h]
theorem allD_app : ∀ (a b : List (List UInt8)), allD (a ++ b) = (allD a).bind fun x => (allD b).map (x ++ ·)
  | [], b => by rw [List.nil_append, allD, Option.bind_some]; cases allD b <;> rfl
  | x :: a, b => by
    rw [List.cons_append, allD, allD]
    cases numD x with
    | none => rfl
    | some n =>
      simp only
      rw [allD_app a b]
      cases allD a with
      | none => rfl
      | some u => cases allD b <;> rfl
theorem allD_len : ∀ {l : List (List UInt8)} {xs : List Int}, allD l = some xs → xs.length = l.length
  | [], xs, h => by rw [allD] at h; injection h with h; rw [← h]; rfl
  | x :: l, xs, h => by
    cases hn : numD x with
    | none => rw [allD_none hn] at h; cases h
    | some n =>
      rw [allD_some hn] at h
      obtain ⟨ys, h1, rfl⟩ := Option.map_eq_some_iff.1 h
      rw [List.length_cons, List.length_cons, allD_len h1]
theorem allD_texts : ∀ {l : List (List UInt8)} {xs : List Int}, allD l = some xs → xs.map Lib.itoa = l
  | [], xs, h => by rw [allD] at h; injection h with h; rw [← h]; rfl
  | x :: l, xs, h => by
    cases hn : numD x with
    | none => rw [allD_none hn] at h; cases h
    | some n =>
      rw [allD_some hn] at h
      obtain ⟨ys, h1, rfl⟩ := Option.map_eq_some_iff.1 h
      rw [List.map_cons, (numD_some hn).1, allD_texts h1]
theorem allD_itoa : ∀ {xs : List Int}, (∀ x ∈ xs, -1000000000000000000 < x ∧ x < 1000000000000000000) → allD (xs.map Lib.itoa) = some xs
  | [], _ => rfl
  | x :: xs, h => by rw [List.map_cons, allD_some (numD_text (h x (by simp))), allD_itoa fun y hy => h y (List.mem_cons_of_mem _ hy)]; rfl
end Go.Proofs.YtebjpmmgdkepjaaGreatDoor
/-
  A string's byte; the reference's digits (l01Digit).
-/
namespace Go.Proofs.YtebjpmmgdkepjaaGreatDoor
open Go.RowKit

theorem bs_at {s : List UInt8} {k : Nat} {c : UInt8} (h : s[k]? = some c) (hk : k < (bs s).size) : (bs s)[k] = c := by
  obtain ⟨hl, rfl⟩ := List.getElem?_eq_some_iff.1 h
  show s.toArray[k]'(by simpa using hl) = s[k]
  exact List.getElem_toArray _
theorem run_ixS {k : Nat} {s : List UInt8} {c : UInt8} {x : Int} (h : s[k]? = some c) (hx : (c.toNat : Int) = x) (w : World) : (Instr.index 9 (.string (bs s)) (.int .i64 (k : Int))).run Tryz.prog w = .ok (.int .u8 x) w := by
  have hk : k < (bs s).size := by rw [bs_size]; exact (List.getElem?_eq_some_iff.1 h).1
  rw [run_index_string w 9 (bs s) .i64 (k : Int) Tryz.underlying9, dif_pos ⟨by omega, by omega⟩]
  have e : (bs s)[(k : Int).toNat] = c := bs_at h hk
  rw [e, hx]
theorem u8_eq {c : UInt8} {d : Nat} (hd : d < 256) : c = UInt8.ofNat d ↔ (c.toNat : Int) = d := by
  constructor
  · rintro rfl; rw [UInt8.toNat_ofNat']; omega
  · intro h; apply UInt8.toNat_inj.1; rw [UInt8.toNat_ofNat']; omega
theorem l01Digit_c (x : Int) (q : Bool) (w : World) (hq : (decide (48 ≤ x) && decide (x ≤ 57)) = q) : Calls Tryz.prog 163 #[.int .u8 x] w fun e w' => e = .returned (.bool q) ∧ w = w' := by
  have HQ := Lib.hid hq
  clear hq
  by_cases h0 : x < 48
  · have g0 : decide ((48 : Int) ≤ x) = false := by simpa using h0
    have HF := Lib.hid (show false = q by rw [← HQ.out, g0]; rfl)
    go_enter Tryz.func163, Tryz.ntmps163
    go_wp2_with fail
    go_ret
    exact ⟨by rw [← HF.out]; rfl, rfl⟩
  · have g0 : decide ((48 : Int) ≤ x) = true := by simpa using h0
    by_cases h1 : x ≤ 57
    · have g1 : decide (x ≤ (57 : Int)) = true := by simpa using h1
      have HF := Lib.hid (show true = q by rw [← HQ.out, g0, g1]; rfl)
      clear h0 h1
      go_enter Tryz.func163, Tryz.ntmps163
      go_wp2_with fail
      go_ret
      exact ⟨by rw [← HF.out]; rfl, rfl⟩
    · have g1 : decide (x ≤ (57 : Int)) = false := by simpa using h1
      have HF := Lib.hid (show false = q by rw [← HQ.out, g1, Bool.and_false])
      clear h0 h1
      go_enter Tryz.func163, Tryz.ntmps163
      go_wp2_with fail
      go_ret
      exact ⟨by rw [← HF.out]; rfl, rfl⟩
end Go.Proofs.YtebjpmmgdkepjaaGreatDoor
