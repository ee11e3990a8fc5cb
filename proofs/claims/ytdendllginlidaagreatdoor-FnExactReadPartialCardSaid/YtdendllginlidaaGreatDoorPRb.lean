/-
  Reading partial configurations, in plain Lean: both readers answer alike. Nothing of the program.
-/
import Derived.Test.YtdendllginlidaaGreatDoorPRw
import Derived.Test.YtdendllginlidaaGreatDoorCTd
namespace Go.Proofs.YtdendllginlidaaGreatDoor
open Go.RowKit

/-- the reference's reader -/
def spR (sy st : Int) (rs : List Rule3) (s : List UInt8) : Option (Int × Int × List Int) := if machB sy st rs = false then none else match spl 91 s with
  | [a, b] => match spl 93 b with
    | [c, d] => match numD c with
      | none => none
      | some n => if partB sy st n a.length (cellsP (a ++ d)) = true ∧ pText n a.length (cellsP (a ++ d)) = s then some (n, (a.length : Int), cellsP (a ++ d)) else none
    | _ => none
  | _ => none
/-- the program's reader -/
def ipR (sy st : Int) (rs : List Rule3) (s : List UInt8) : Option (Int × Int × List Int) :=
  match dgR (Lib.cut s [91]).1, dgR (Lib.cut (Lib.cut s [91]).2.1 [93]).2.1, numD (Lib.cut (Lib.cut s [91]).2.1 [93]).1 with
  | some l, some r, some n => if ptR sy st rs n l.length (l ++ r) = s then some (n, (l.length : Int), l ++ r) else none
  | _, _, _ => none
structure PtOk (sy st : Int) (rs : List Rule3) (n : Int) (k : Nat) (xs : List Int) (s : List UInt8) : Prop where
  mach : machB sy st rs = true
  part : partB sy st n k xs = true
  text : pText n k xs = s
theorem PtOk.parts {sy st : Int} {rs : List Rule3} {n : Int} {k : Nat} {xs : List Int} {s : List UInt8} (h : PtOk sy st rs n k xs s) :
    ∃ a i d, s = a ++ 91 :: (i ++ 93 :: d) ∧ 91 ∉ a ∧ 91 ∉ i ++ 93 :: d ∧ 93 ∉ i ∧ 93 ∉ d ∧ numD i = some n ∧ a = digT (xs.take k) ∧ d = digT (xs.drop k) ∧ a.length = k ∧ dgs xs := by
  obtain ⟨h1, h2⟩ := machB_bd h.mach
  obtain ⟨b1, b2, b3, b4⟩ := partB_bd h.part h1 h2.1
  have t1 : dgs (xs.take k) := fun x hx => b4 x (List.mem_of_mem_take hx)
  have t2 : dgs (xs.drop k) := fun x hx => b4 x (List.mem_of_mem_drop hx)
  have i91 : (91 : UInt8) ∉ Lib.itoa n := itoa_not (by decide) (by decide)
  have i93 : (93 : UInt8) ∉ Lib.itoa n := itoa_not (by decide) (by decide)
  refine ⟨digT (xs.take k), Lib.itoa n, digT (xs.drop k), ?_, dig_not t1 (by decide), ?_, i93, dig_not t2 (by decide), numD_text (by omega), rfl, rfl, ?_, b4⟩
  · rw [← h.text, pText]; simp
  · rw [List.mem_append, List.mem_cons]
    rintro (g | g | g)
    · exact i91 g
    · exact absurd g (by decide)
    · exact dig_not t2 (by decide) g
  · rw [digT_len, List.length_take]; omega
theorem PtOk.spR {sy st : Int} {rs : List Rule3} {n : Int} {k : Nat} {xs : List Int} {s : List UInt8} (h : PtOk sy st rs n k xs s) : spR sy st rs s = some (n, (k : Int), xs) := by
  obtain ⟨a, i, d, hs, h1, h2, h3, h4, h5, h6, h7, h8, h9⟩ := h.parts
  have e1 : spl 91 s = [a, i ++ 93 :: d] := by rw [hs, spl_at _ h1, spl_none h2]
  have e2 : spl 93 (i ++ 93 :: d) = [i, d] := by rw [spl_at _ h3, spl_none h4]
  have e3 : cellsP (a ++ d) = xs := by
    rw [cellsP, List.map_append, ← cellsP, ← cellsP, h6, h7, cells_dig fun x hx => h9 x (List.mem_of_mem_take hx), cells_dig fun x hx => h9 x (List.mem_of_mem_drop hx), List.take_append_drop]
  unfold Go.Proofs.YtdendllginlidaaGreatDoor.spR
  rw [h.mach, if_neg (by simp), e1]
  simp only
  rw [e2]
  simp only
  rw [h5]
  simp only
  rw [h8, e3, if_pos ⟨h.part, h.text⟩]
theorem PtOk.ipR {sy st : Int} {rs : List Rule3} {n : Int} {k : Nat} {xs : List Int} {s : List UInt8} (h : PtOk sy st rs n k xs s) : ipR sy st rs s = some (n, (k : Int), xs) := by
  obtain ⟨a, i, d, hs, h1, h2, h3, h4, h5, h6, h7, h8, h9⟩ := h.parts
  have e1 := (cut1 91 s).2 a (i ++ 93 :: d) h1 hs
  have e2 := (cut1 93 (i ++ 93 :: d)).2 i d h3 rfl
  have e3 : dgR a = some (xs.take k) := by rw [h6]; exact dgR_dig fun x hx => h9 x (List.mem_of_mem_take hx)
  have e4 : dgR d = some (xs.drop k) := by rw [h7]; exact dgR_dig fun x hx => h9 x (List.mem_of_mem_drop hx)
  have e5 : (xs.take k).length = k := by have := h8; rw [h6, digT_len] at this; exact this
  have e6 : ptR sy st rs n k xs = s := by rw [ptR, vpartB, h.mach, h.part]; exact h.text
  unfold Go.Proofs.YtdendllginlidaaGreatDoor.ipR
  rw [e1]
  simp only
  rw [e2]
  simp only
  rw [e3, e4, h5]
  simp only
  rw [e5, List.take_append_drop, if_pos e6]
theorem ip_eq (sy st : Int) (rs : List Rule3) (s : List UInt8) : ipR sy st rs s = spR sy st rs s := by
  have b1 : ∀ x, spR sy st rs s = some x → ∃ k : Nat, x.2.1 = k ∧ PtOk sy st rs x.1 k x.2.2 s := by
    intro x h
    unfold spR at h
    by_cases hm : machB sy st rs = false
    · rw [if_pos hm] at h; cases h
    rw [if_neg hm] at h
    split at h
    · rename_i a b _
      split at h
      · rename_i c d _
        cases hn : numD c with
        | none => rw [hn] at h; cases h
        | some n =>
          rw [hn] at h
          simp only at h
          split at h
          · rename_i hc
            injection h with h
            subst h
            exact ⟨a.length, rfl, by simpa using hm, hc.1, hc.2⟩
          · cases h
      · cases h
    · cases h
  have b2 : ∀ x, ipR sy st rs s = some x → ∃ k : Nat, x.2.1 = k ∧ PtOk sy st rs x.1 k x.2.2 s := by
    intro x h
    unfold ipR at h
    split at h
    · rename_i l r n hl hr hn
      split at h
      · rename_i hc
        injection h with h
        subst h
        refine ⟨l.length, rfl, ?_⟩
        cases hv : vpartB sy st rs n l.length (l ++ r) with
        | true =>
          rw [ptR, hv, if_pos rfl, Int.toNat_natCast] at hc
          rw [vpartB, Bool.and_eq_true] at hv
          exact ⟨hv.1, hv.2, hc⟩
        | false =>
          rw [ptR, hv, if_neg (by simp)] at hc
          subst hc
          have : numD (Lib.cut (Lib.cut ([] : List UInt8) [91]).2.1 [93]).1 = none := by decide
          rw [this] at hn; cases hn
      · cases h
    · cases h
  cases h1 : spR sy st rs s with
  | some x =>
    obtain ⟨k, e, hk⟩ := b1 x h1
    obtain ⟨n, a, xs⟩ := x
    simp only at e hk
    subst e
    exact hk.ipR
  | none =>
    cases h2 : ipR sy st rs s with
    | none => rfl
    | some x =>
      obtain ⟨k, e, hk⟩ := b2 x h2
      rw [hk.spR] at h1; cases h1
end Go.Proofs.YtdendllginlidaaGreatDoor
