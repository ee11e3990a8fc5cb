/-
  Reading proofs, in plain Lean: both readers answer alike. Nothing of the program.
-/
import Derived.Test.YtdendllginlidaaGreatDoorPRb
import Derived.Test.YtdendllginlidaaGreatDoorCTe
import Derived.Lib.SlicesS
namespace Go.Proofs.YtdendllginlidaaGreatDoor
open Go.RowKit

/-- the kind with a name, among the first ones; 0 if there is none -/
def kdU (a : List UInt8) : Nat → Nat
  | 0 => 0
  | j + 1 => if nameL (j + 1) = a then j + 1 else kdU a j
def kdN (a : List UInt8) : Nat := kdU a 8
theorem nameL_inj : ∀ i, i < 9 → ∀ j, j < 9 → 1 ≤ i → 1 ≤ j → nameL i = nameL j → i = j := by decide
theorem kdU_spec (a : List UInt8) : ∀ j, (kdU a j = 0 ∧ ∀ i, 1 ≤ i → i ≤ j → nameL i ≠ a) ∨ (1 ≤ kdU a j ∧ kdU a j ≤ j ∧ nameL (kdU a j) = a)
  | 0 => .inl ⟨rfl, fun i h1 h2 => by omega⟩
  | j + 1 => by
    rw [kdU]
    split
    · rename_i h; exact .inr ⟨by omega, by omega, h⟩
    · rename_i h
      rcases kdU_spec a j with ⟨h1, h2⟩ | ⟨h1, h2, h3⟩
      · refine .inl ⟨h1, fun i g1 g2 => ?_⟩
        by_cases hi : i = j + 1
        · subst hi; exact h
        · exact h2 i g1 (by omega)
      · exact .inr ⟨h1, by omega, h3⟩
theorem kdN_name {k : Nat} (h1 : 1 ≤ k) (h8 : k ≤ 8) : kdN (nameL k) = k := by
  rcases kdU_spec (nameL k) 8 with ⟨_, h⟩ | ⟨g1, g2, g3⟩
  · exact absurd rfl (h k h1 h8)
  · exact nameL_inj _ (by unfold kdN; omega) _ (by omega) g1 h1 g3
def namesZ : List ByteArray := [bs (nameL 1), bs (nameL 2), bs (nameL 3), bs (nameL 4), bs (nameL 5), bs (nameL 6), bs (nameL 7), bs (nameL 8)]
theorem namesZ_at {j : Nat} (h : j < 8) : namesZ.getD j ByteArray.empty = bs (nameL (j + 1)) := by
  have : j = 0 ∨ j = 1 ∨ j = 2 ∨ j = 3 ∨ j = 4 ∨ j = 5 ∨ j = 6 ∨ j = 7 := by omega
  rcases this with rfl | rfl | rfl | rfl | rfl | rfl | rfl | rfl <;> rfl
theorem bs_injR {a b : List UInt8} (h : bs a = bs b) : a = b := by
  have := congrArg (fun x : ByteArray => x.data.toList) h
  simpa [bs] using this
theorem idx_kdN (a : List UInt8) : Lib.idxOfS (namesZ.take 8) (bs a) + 1 = (kdN a : Int) := by
  rcases kdU_spec a 8 with ⟨h1, h2⟩ | ⟨g1, g2, g3⟩
  · rw [Lib.idxOfS_miss namesZ 8 (bs a) fun j hj => by rw [namesZ_at hj]; exact fun e => h2 (j + 1) (by omega) (by omega) (bs_injR e)]
    rw [kdN, h1]; rfl
  · rw [Lib.idxOfS_hit namesZ 8 (kdU a 8 - 1) (bs a) (by omega) (Nat.le_refl _) (by rw [namesZ_at (by omega), show kdU a 8 - 1 + 1 = kdU a 8 by omega, g3]) fun j hj => by
      rw [namesZ_at (by omega)]
      intro e
      have := nameL_inj (j + 1) (by omega) (kdU a 8) (by omega) (by omega) g1 ((bs_injR e).trans g3.symm)
      omega]
    rw [kdN]; omega
/-- the reference's reader of numbers, of a word, of words -/
def nmR (b : List UInt8) : Option (List Int) := if b = [45] then some [] else if 300 < (spl 44 b).length then none else allD (spl 44 b)
def wdR1 (x : List UInt8) : Option (List Int) := if x = [45] then some [] else match dgR x with
  | none => none
  | some w => if 0 < w.length ∧ w.length ≤ 400 then some w else none
def allW : List (List UInt8) → Option (List (List Int))
  | [] => some []
  | x :: l => match wdR1 x with
    | none => none
    | some w => (allW l).map (w :: ·)
def wdR (c : List UInt8) : Option (List (List Int)) := if c = [] then some [] else if 300 < (spl 44 c).length then none else allW (spl 44 c)
theorem allW_none {x : List UInt8} {l : List (List UInt8)} (h : wdR1 x = none) : allW (x :: l) = none := by rw [allW, h]
theorem allW_some {x : List UInt8} {l : List (List UInt8)} {w : List Int} (h : wdR1 x = some w) : allW (x :: l) = (allW l).map (w :: ·) := by rw [allW, h]
/-- the reference's reader -/
def srR (s : List UInt8) : Option (Nat × List Int × List (List Int)) := match spl 58 s with
  | [a, b, c] => match nmR b, wdR c with
    | some ns, some ws => if proofB (kdN a) ns ws = true then some (kdN a, ns, ws) else none
    | _, _ => none
  | _ => none
def nmP (b : List UInt8) : List Int := if b = [45] then [] else (allD (spl 44 b)).getD []
def wdP (c : List UInt8) : List (List Int) := if c = [] then [] else (spl 44 c).map fun x => (wdR1 x).getD []
/-- the program's reader -/
def irR (s : List UInt8) : Option (Nat × List Int × List (List Int)) := match spl 58 s with
  | [a, b, c] => if prR (kdN a) (nmP b) (wdP c) = s then some (kdN a, nmP b, wdP c) else none
  | _ => none
theorem spl_three {c : UInt8} {s a b d : List UInt8} (h : spl c s = [a, b, d]) : s = a ++ c :: (b ++ c :: d) := by
  have h1 := join_spl c s
  rw [h, Lib.join_cons, joinT_cons, joinT_cons] at h1
  rw [← h1]; simp [Lib.joinTail]
theorem wordT_not {c : UInt8} {xs : List Int} (h : dgs xs) (h45 : c ≠ 45) (hc : c.toNat < 48 ∨ 57 < c.toNat) : c ∉ wordT xs := by
  unfold wordT
  split
  · simpa using h45
  · exact dig_not h hc
theorem wd_text {xs : List Int} (h : dgs xs) (hl : xs.length ≤ 400) : wdR1 (wordT xs) = some xs := by
  unfold wordT
  split
  · rename_i h0; rw [h0]; rfl
  · rename_i h0
    have hp := List.length_pos_iff.2 h0
    rw [wdR1, if_neg, dgR_dig h]
    · simp only; rw [if_pos ⟨hp, hl⟩]
    · intro e
      have h1 := dig_not (c := 45) h (by decide)
      rw [e] at h1; exact h1 (by simp)
theorem wd_some {x : List UInt8} {w : List Int} (h : wdR1 x = some w) : wordT w = x ∧ dgs w ∧ w.length ≤ 400 := by
  unfold wdR1 at h
  split at h
  · rename_i h0; injection h with h; subst h; subst h0; exact ⟨rfl, (fun y hy => by cases hy), by simp⟩
  · cases hd : dgR x with
    | none => rw [hd] at h; cases h
    | some v =>
      rw [hd] at h
      simp only at h
      split at h
      · rename_i hc
        injection h with h; subst h
        obtain ⟨g1, g2, _⟩ := dgR_some hd
        refine ⟨?_, g1, hc.2⟩
        rw [wordT, if_neg (fun e => by rw [e] at hc; simp at hc)]; exact g2
      · cases h
theorem allW_text : ∀ {ws : List (List Int)}, (∀ w ∈ ws, dgs w ∧ w.length ≤ 400) → allW (ws.map wordT) = some ws
  | [], _ => rfl
  | w :: ws, h => by rw [List.map_cons, allW_some (wd_text (h w (by simp)).1 (h w (by simp)).2), allW_text fun v hv => h v (List.mem_cons_of_mem _ hv)]; rfl
theorem allW_texts : ∀ {l : List (List UInt8)} {ws : List (List Int)}, allW l = some ws → ws.map wordT = l ∧ l.map (fun x => (wdR1 x).getD []) = ws
  | [], ws, h => by rw [allW] at h; injection h with h; subst h; exact ⟨rfl, rfl⟩
  | x :: l, ws, h => by
    cases hn : wdR1 x with
    | none => rw [allW_none hn] at h; cases h
    | some n =>
      rw [allW_some hn] at h
      obtain ⟨ys, h1, rfl⟩ := Option.map_eq_some_iff.1 h
      obtain ⟨g1, g2⟩ := allW_texts h1
      exact ⟨by rw [List.map_cons, (wd_some hn).1, g1], by rw [List.map_cons, hn, g2]; rfl⟩
theorem nm_text {xs : List Int} (h : ∀ x ∈ xs, -1000000000000000000 < x ∧ x < 1000000000000000000) (hl : xs.length ≤ 300) : nmR (listT xs) = some xs ∧ nmP (listT xs) = xs := by
  unfold listT
  split
  · rename_i h0; rw [h0]; exact ⟨rfl, rfl⟩
  · rename_i h0
    have hs : spl 44 (Lib.join (xs.map Lib.itoa) [44]) = xs.map Lib.itoa := spl_join (by simpa using h0) fun x hx => by
      obtain ⟨y, _, rfl⟩ := List.mem_map.1 hx
      exact itoa_not (by decide) (by decide)
    have hne : Lib.join (xs.map Lib.itoa) [44] ≠ [45] := fun e => by
      have h1 := hs
      rw [e] at h1
      have h2 : [[45]] = xs.map Lib.itoa := h1
      have h3 := allD_itoa h
      rw [← h2] at h3
      have h4 : allD [[45]] = none := by decide
      rw [h4] at h3; cases h3
    refine ⟨?_, ?_⟩
    · rw [nmR, if_neg hne, hs, if_neg (by rw [List.length_map]; omega), allD_itoa h]
    · rw [nmP, if_neg hne, hs, allD_itoa h]; rfl
theorem nm_some {b : List UInt8} {ns : List Int} (h : nmR b = some ns) : listT ns = b ∧ nmP b = ns := by
  unfold nmR at h
  by_cases h0 : b = [45]
  · rw [if_pos h0] at h; injection h with h; subst h; subst h0; exact ⟨rfl, rfl⟩
  · rw [if_neg h0] at h
    split at h
    · cases h
    · have ht := allD_texts h
      refine ⟨?_, by rw [nmP, if_neg h0, h]; rfl⟩
      rw [listT, if_neg, ht, join_spl]
      intro e
      rw [e] at ht
      exact spl_ne 44 b ht.symm
theorem wd_texts {ws : List (List Int)} (h : ∀ w ∈ ws, dgs w ∧ w.length ≤ 400) (hl : ws.length ≤ 300) : wdR (Lib.join (ws.map wordT) [44]) = some ws ∧ wdP (Lib.join (ws.map wordT) [44]) = ws := by
  by_cases h0 : ws = []
  · subst h0; exact ⟨rfl, rfl⟩
  · have hs : spl 44 (Lib.join (ws.map wordT) [44]) = ws.map wordT := spl_join (by simpa using h0) fun x hx => by
      obtain ⟨y, hy, rfl⟩ := List.mem_map.1 hx
      exact wordT_not (h y hy).1 (by decide) (by decide)
    have hne : Lib.join (ws.map wordT) [44] ≠ [] := fun e => by
      have h1 := hs
      rw [e] at h1
      have h2 : [[]] = ws.map wordT := h1
      cases ws with
      | nil => exact h0 rfl
      | cons w ws =>
        rw [List.map_cons] at h2
        injection h2 with h2 _
        unfold wordT at h2
        split at h2
        · cases h2
        · rename_i hw
          have := congrArg List.length h2
          rw [digT_len] at this
          exact hw (List.length_eq_zero_iff.1 this.symm)
    refine ⟨?_, ?_⟩
    · rw [wdR, if_neg hne, hs, if_neg (by rw [List.length_map]; omega), allW_text h]
    · rw [wdP, if_neg hne, hs, (allW_texts (allW_text h)).2]
theorem wds_some {c : List UInt8} {ws : List (List Int)} (h : wdR c = some ws) : Lib.join (ws.map wordT) [44] = c ∧ wdP c = ws := by
  unfold wdR at h
  by_cases h0 : c = []
  · rw [if_pos h0] at h; injection h with h; subst h; subst h0; exact ⟨rfl, rfl⟩
  · rw [if_neg h0] at h
    split at h
    · cases h
    · obtain ⟨g1, g2⟩ := allW_texts h
      exact ⟨by rw [g1, join_spl], by rw [wdP, if_neg h0, g2]⟩
theorem proofB_all {kd : Int} {xs : List Int} {ws : List (List Int)} (h : proofB kd xs ws = true) : (1 ≤ kd ∧ kd ≤ 8) ∧ xs.length ≤ 300 ∧ ws.length ≤ 300 ∧ (∀ x ∈ xs, -1000000000000000000 < x ∧ x < 1000000000000000000) ∧ ∀ w ∈ ws, dgs w ∧ w.length ≤ 400 := by
  simp only [proofB, Bool.and_eq_true, decide_eq_true_eq] at h
  refine ⟨inB_t h.1.1.1.1, by omega, by omega, fun x hx => ?_, fun w hw => ?_⟩
  · have := allB_mem h.1.2 x hx; omega
  · have h1 := List.all_eq_true.1 h.2 w hw
    simp only [wordB, Bool.and_eq_true, decide_eq_true_eq] at h1
    exact ⟨fun x hx => allB_mem h1.2 x hx, by omega⟩
theorem nameL_not (k : Nat) : (58 : UInt8) ∉ nameL k := by unfold nameL; split <;> decide
theorem listT_not (xs : List Int) : (58 : UInt8) ∉ listT xs := by
  unfold listT
  split
  · decide
  · exact join_not (by decide) fun x hx => by
      obtain ⟨y, _, rfl⟩ := List.mem_map.1 hx
      exact itoa_not (by decide) (by decide)
theorem ir_eq (s : List UInt8) : irR s = srR s := by
  unfold irR srR
  split
  · rename_i a b c hs
    have hj := spl_three hs
    by_cases hp : prR (kdN a) (nmP b) (wdP c) = s
    · rw [if_pos hp]
      cases hv : proofB (kdN a) (nmP b) (wdP c) with
      | false => rw [prR_no hv] at hp; rw [← hp] at hj; exact absurd (congrArg List.length hj) (by simp)
      | true =>
        obtain ⟨h1, h2, h3, h4, h5⟩ := proofB_all hv
        have ht : prText (kdN a) (nmP b) (wdP c) = s := by rw [prR, hv, if_pos rfl, Int.toNat_natCast] at hp; exact hp
        have hs2 : spl 58 s = [nameL (kdN a), listT (nmP b), Lib.join ((wdP c).map wordT) [44]] := by
          rw [← ht, prText]
          simp only [List.append_assoc, List.cons_append, List.nil_append]
          rw [spl_at _ (nameL_not _), spl_at _ (listT_not _), spl_none (join_not (by decide) fun x hx => by
            obtain ⟨y, hy, rfl⟩ := List.mem_map.1 hx
            exact wordT_not (h5 y hy).1 (by decide) (by decide))]
        rw [hs] at hs2
        injection hs2 with e1 hs2
        injection hs2 with e2 hs2
        injection hs2 with e3 _
        have n1 := (nm_text h4 h2).1
        have w1 := (wd_texts h5 h3).1
        rw [← e2] at n1
        rw [← e3] at w1
        rw [n1, w1]
        simp only
        rw [hv, if_pos rfl]
    · rw [if_neg hp]
      cases hn : nmR b with
      | none => rfl
      | some ns =>
        cases hw : wdR c with
        | none => rfl
        | some ws =>
          simp only
          obtain ⟨g1, g2⟩ := nm_some hn
          obtain ⟨g3, g4⟩ := wds_some hw
          rw [if_neg]
          intro hv
          obtain ⟨h1, _⟩ := proofB_all hv
          apply hp
          rw [g2, g4, prR, hv, if_pos rfl, Int.toNat_natCast, prText, g1, g3, hj]
          rcases kdU_spec a 8 with ⟨q1, _⟩ | ⟨_, _, q3⟩
          · have : kdN a = 0 := q1
            omega
          · have : nameL (kdN a) = a := q3
            rw [this]; simp
  · rfl
end Go.Proofs.YtdendllginlidaaGreatDoor
