/-
  Reading automata, in plain Lean: both readers answer alike. Nothing of the program.
-/
import Derived.Test.YtdendllginlidaaDoorPAll
import Derived.Test.YtdendllginlidaaDoorCTg
namespace Go.Proofs.YtdendllginlidaaDoor
open Go.RowKit

def repF (s : List UInt8) : List UInt8 := s.map fun x => if x = 59 then 44 else x
/-- the reference's reader -/
def sdR (s : List UInt8) (sym : Int) : Option (Int × List Int) := match allD ((spl 59 s).flatMap (spl 44)) with
  | none => none
  | some xs => if dfaB (spl 59 s).length sym xs = true ∧ daR (spl 59 s).length sym xs = s then some (((spl 59 s).length : Int), xs) else none
/-- the program's reader -/
def idR (s : List UInt8) (sym : Int) : Option (Int × List Int) := match allD (spl 44 (repF s)) with
  | none => none
  | some xs => if inB sym 2 6 = true ∧ dfaB ((xs.length : Int) / sym) sym xs = true ∧ daR ((xs.length : Int) / sym) sym xs = s then some ((xs.length : Int) / sym, xs) else none
theorem daR_rows {st sym : Int} {xs : List Int} {t : List UInt8} (h : dfaB st sym xs = true) (ht : daR st sym xs = t) : ((spl 59 t).length : Int) = st := by
  obtain ⟨h1, h2, h3, _⟩ := dfaB_parts h
  obtain ⟨S, rfl⟩ : ∃ S : Nat, sym = S := ⟨sym.toNat, by omega⟩
  obtain ⟨T, rfl⟩ : ∃ T : Nat, st = T := ⟨st.toNat, by omega⟩
  have hl : xs.length = T * S := by have : ((T * S : Nat) : Int) = (T : Int) * (S : Int) := by push_cast; rfl
                                    omega
  rw [← ht, daR, if_pos h, Int.toNat_natCast, hl, daPre_join (by omega) T (by rw [hl]; exact Nat.le_refl _), daJoin, spl_join]
  · simp
  · intro e
    have := congrArg List.length e
    simp at this; omega
  · intro x hx
    obtain ⟨r, _, rfl⟩ := List.mem_map.1 hx
    exact join_not (by decide) fun y hy => by
      obtain ⟨z, _, rfl⟩ := List.mem_map.1 hy
      exact itoa_not (by decide) (by decide)
theorem id_eq (s : List UInt8) (sym : Int) : idR s sym = sdR s sym := by
  unfold idR sdR repF
  rw [spl_repl]
  cases ha : allD ((spl 59 s).flatMap (spl 44)) with
  | none => rfl
  | some xs =>
    simp only
    by_cases h2 : dfaB (spl 59 s).length sym xs = true ∧ daR (spl 59 s).length sym xs = s
    · obtain ⟨p1, p2, p3, _⟩ := dfaB_parts h2.1
      have e : (xs.length : Int) / sym = (spl 59 s).length := by
        rw [p3]; exact Int.mul_ediv_cancel _ (by omega)
      rw [if_pos h2, if_pos ⟨inB_of p1.1 p1.2, by rw [e]; exact h2.1, by rw [e]; exact h2.2⟩, e]
    · rw [if_neg h2, if_neg]
      rintro ⟨_, g2, g3⟩
      have e := daR_rows g2 g3
      exact h2 (by rw [e]; exact ⟨g2, g3⟩)
end Go.Proofs.YtdendllginlidaaDoor
