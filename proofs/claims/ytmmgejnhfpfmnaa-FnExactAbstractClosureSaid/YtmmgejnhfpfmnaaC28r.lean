/-
  Contracts of chapter 28 (automata): whether the reference's closure avoids halting.
-/
import Derived.Test.YtmmgejnhfpfmnaaC28o
namespace Go.Proofs.Ytmmgejnhfpfmnaa
open Go.RowKit

theorem clGo_ok {sl st sy sr : Int} {rs : List Rule3} {xl xr : List Int} (hm : machB sy st rs = true) (hl : DfaOk sl sy xl) (hr : DfaOk sr sy xr) : ∀ (f k : Nat) (l : List Nd) (o : List Nd), (∀ y ∈ l, NdOk sl st sy sr y) → clGo rs sy xl xr f k l = some o → ∀ y ∈ o, NdOk sl st sy sr y
  | 0, k, l, o, _, h => by rw [clGo] at h; cases h
  | f + 1, k, l, o, h0, h => by
    by_cases hk : k < l.length
    · have hx := List.getElem?_eq_getElem hk
      by_cases hb : 3000 < ((stepsN rs sy xl xr l[k]).foldl addN l).length
      · rw [clGo_full hx hb] at h; cases h
      · rw [clGo_on hx hb] at h
        exact clGo_ok hm hl hr f (k + 1) _ o (fold_ok _ (stepsN_ok hm hl hr (h0 _ (List.getElem_mem hk))) l h0) h
    · rw [clGo_end (by omega)] at h
      injection h with h; subst h; exact h0
theorem clR_ok {sl st sy sr : Int} {rs : List Rule3} {xl xr : List Int} (hm : machB sy st rs = true) (hl : DfaOk sl sy xl) (hr : DfaOk sr sy xr) {o : List Nd} (h : clR rs sy xl xr = some o) : ∀ y ∈ o, NdOk sl st sy sr y := by
  have h1 := (machB_bd hm).1; have h2 := (machB_bd hm).2.1; have h3 := hl.stt; have h4 := hr.stt
  refine clGo_ok hm hl hr _ _ _ o (fun y hy => ?_) h
  rw [List.mem_singleton] at hy; subst hy
  exact ⟨⟨Int.le_refl 0, by show (0 : Int) < sl; omega⟩, ⟨Int.le_refl 0, by show (0 : Int) < st; omega⟩, ⟨Int.le_refl 0, by show (0 : Int) < sy; omega⟩, ⟨Int.le_refl 0, by show (0 : Int) < sr; omega⟩⟩
theorem sortO_all {sl st sy sr : Int} {rs : List Rule3} {xl xr : List Int} {kz : Nat} (hm : machB sy st rs = true) (hl : DfaOk sl sy xl) (hr : DfaOk sr sy xr) (hk : (kz : Int) = sl * st * sy * sr) :
    ((sortO st sy sr kz (clR rs sy xl xr)).all (okN rs sy) && (clR rs sy xl xr).isSome) = avoidsB rs sy xl xr := by
  unfold avoidsB
  cases h : clR rs sy xl xr with
  | none => rfl
  | some l => rw [sortO, sortN_all hk (clR_ok hm hl hr h)]; simp
theorem sortO_ok {sl st sy sr : Int} {rs : List Rule3} {xl xr : List Int} {kz : Nat} (hm : machB sy st rs = true) (hl : DfaOk sl sy xl) (hr : DfaOk sr sy xr) (hk : (kz : Int) = sl * st * sy * sr) : ∀ y ∈ sortO st sy sr kz (clR rs sy xl xr), NdOk sl st sy sr y := by
  cases h : clR rs sy xl xr with
  | none => intro y hy; cases hy
  | some l => intro y hy; rw [sortO, sortN_mem hk (clR_ok hm hl hr h)] at hy; exact clR_ok hm hl hr h y hy
theorem take_all_next {l : List Nd} {k : Nat} {x : Nd} {p : Nd → Bool} (h : (l.take k).all p = true) (hx : l[k]? = some x) (hp : p x = true) : (l.take (k + 1)).all p = true := by
  rw [take_at hx, List.all_append, h]; simp [hp]
theorem all_not {l : List Nd} {k : Nat} {x : Nd} {p : Nd → Bool} (hx : l[k]? = some x) (hp : p x = false) : l.all p = false := by
  rw [← Bool.not_eq_true, List.all_eq_true]
  intro h; have := h x (List.mem_of_getElem? hx); rw [hp] at this; cases this
def avR (sy st : Int) (rs : List Rule3) (sl : Int) (xl : List Int) (sr : Int) (xr : List Int) : Bool := readyB sy st rs sl xl sr xr && avoidsB rs sy xl xr
end Go.Proofs.Ytmmgejnhfpfmnaa
