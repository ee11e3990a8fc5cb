/-
  Contracts of chapter 11 (recursive functions): the program's text of a function.
-/
import Derived.Test.YtnoapoaajidncaaDoorC11k
namespace Go.Proofs.YtnoapoaajidncaaDoor
open Go.RowKit
open FTr

theorem flat_take3 {l : List Nd3} {k : Nat} : (l.flatMap enc3).take (k * 3) = (l.take k).flatMap enc3 := by
  induction l generalizing k with
  | nil => simp
  | cons x l ih =>
    cases k with
    | zero => simp
    | succ k => rw [List.flatMap_cons, List.take_succ_cons, List.flatMap_cons, ← ih, Nat.succ_mul]; rfl
theorem flat_drop3 {l : List Nd3} {k : Nat} : (l.flatMap enc3).drop (k * 3) = (l.drop k).flatMap enc3 := by
  induction l generalizing k with
  | nil => simp
  | cons x l ih =>
    cases k with
    | zero => simp
    | succ k => rw [List.flatMap_cons, List.drop_succ_cons, ← ih, Nat.succ_mul]; rfl
/-- a part of a list of nodes -/
theorem Rd3.part {w : World} {ad : Addr} {n : Nat} {c : List Nd3} (h : Rd3 w (some ad) n c) (k p : Nat) (hkp : k + p ≤ n) : Rd3 w (some (ad.add (k * 3))) p ((c.drop k).take p) := by
  have hl := h.len
  refine ⟨?_, fun hp => ?_⟩
  · rw [flatX_len enc3 3 enc3_len, List.length_take, List.length_drop, hl]; omega
  · obtain ⟨_, e, hb, hc⟩ := h.2 (by omega)
    injection e with e; subst e
    refine ⟨_, rfl, by rw [block_add]; exact hb, fun j v hj => ?_⟩
    rw [← flat_take3, ← flat_drop3, List.getElem?_take] at hj
    split at hj
    · rw [List.getElem?_drop] at hj
      rw [add_add]; exact hc _ v hj
    · cases hj
theorem ptVs_at {ad : Addr} {cp a i : Nat} {ts : List FTr} {t : FTr} (h : ts[i]? = some t) : (ptVs ad cp a ts)[i]? = some (ptV ad cp (a + (flats (ts.take i)).length) t) := by
  induction ts generalizing a i with
  | nil => cases h
  | cons u ts ih =>
    cases i with
    | zero => simp only [List.getElem?_cons_zero, Option.some.injEq] at h; subst h; simp [ptVs, flats_nil]
    | succ i =>
      rw [List.getElem?_cons_succ] at h
      rw [ptVs, List.getElem?_cons_succ, ih h, List.take_succ_cons, flats_cons, List.length_append, Nat.add_assoc]
theorem JoinX_c (g o c n : Nat) (L : List (List UInt8)) (sep : List UInt8) (w : World) (h : ∀ j l, L[j]? = some l → w.cell? ⟨g, o + j, none⟩ = some (.string (bs l))) (hg : g < w.heap.size) (hl : L.length = n) (hc : n ≤ c) (hn : n ≤ 100000000) (hlen : (Lib.join L sep).length ≤ 140737488355328) :
    Calls Tryd.prog 43 #[.slice (some ⟨g, o, none⟩) n c, .string (bs sep)] w fun e w' => e = .returned (.string (bs (Lib.join L sep))) ∧ Below w.heap.size w w' := by
  have hx : (L.map bs).map (·.data.toList) = L := by rw [List.map_map]; simp [Function.comp_def, bs_list]
  have hj := Tryd.strings_Join g o c (L.map bs) (bs sep) w (fun j x hx => by
      rw [List.getElem?_map] at hx
      cases hL : L[j]? with
      | none => rw [hL] at hx; cases hx
      | some y => rw [hL] at hx; injection hx with hx; subst hx; exact h j y hL)
    hg (by rw [List.length_map]; omega) (by rw [List.length_map]; omega) (by rw [hx, bs_list]; exact hlen)
  rw [hx, bs_list, List.length_map, hl] at hj
  exact hj
/-- the texts as values -/
def txV (ts : List FTr) : List Value := ts.map fun t => .string (bs (textT t))
end Go.Proofs.YtnoapoaajidncaaDoor
