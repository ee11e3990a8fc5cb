/-
  slices.Sort and slices.Compact at numbers: how a slice of the call's own reads behind them.
-/
import Derived.Test.YtecpbgmcednpoaaShelfI
import Derived.Test.YtecpbgmcednpoaaC01
import Derived.Test.YtecpbgmcednpoaaApp
namespace Go.Proofs.Ytecpbgmcednpoaa
open Go.RowKit Go.Sort

section
variable {α : Type} [Inhabited α] {enc : α → Value} {w : World} {g m : Nat} {d d0 : Array α} {os : Array Obj}
theorem putW_size : w.heap.size ≤ (grow (putRow enc (Sort.ahead w m) g 0 d) os).heap.size := by simp
theorem putW_block {k : Nat} (hk : k < w.heap.size) (hne : k ≠ g) : (grow (putRow enc (Sort.ahead w m) g 0 d) os).heap[k]? = w.heap[k]? := by
  rw [heap_grow_old _ _ (by simpa using hk)]
  simp [putRow, mapBlock, Sort.ahead, Array.getElem?_modify, Ne.symm hne]
theorem putW_below {B : Nat} (hB : B ≤ g) (hg : g < w.heap.size) : RowKit.Below B w (grow (putRow enc (Sort.ahead w m) g 0 d) os) :=
  ⟨rfl, rfl, rfl, putW_size, fun k hk => putW_block (by omega) (by omega)⟩
theorem putW_at (hg : g < w.heap.size) (hH : Holds enc w g 0 d0) (hs : d.size = d0.size) {j : Nat} (hj : j < d.size) :
    (grow (putRow enc (Sort.ahead w m) g 0 d) os).cell? ⟨g, j, none⟩ = some (enc d[j]!) ∧ (grow (putRow enc (Sort.ahead w m) g 0 d) os).frozen? ⟨g, j, none⟩ = false := by
  rw [cell?_grow _ _ _ (by simpa using hg), frozen?_grow _ _ _ (by simpa using hg), frozen?_putRow]
  have hH' : Holds enc (Sort.ahead w m) g 0 d0 := hH
  have h1 := cell?_putRow enc (Sort.ahead w m) g 0 d0 d hH' hs j hj
  have h2 := (hH' j (by omega)).2
  rw [Nat.zero_add] at h1 h2
  exact ⟨h1, h2⟩
end
theorem holds_of {w : World} {lo hi g n : Nat} {xs : List Int} (h : Wr w lo hi (some ⟨g, 0, none⟩) n (xs.map i64)) (hn : 0 < n) : Holds (Value.int .i64) w g 0 xs.toArray ∧ lo ≤ g ∧ g < hi ∧ g < w.heap.size := by
  obtain ⟨ad, e, h1, h2, h3, hc⟩ := h.2 hn
  injection e with e; subst e
  refine ⟨fun j hj => ?_, h1, h2, h3⟩
  have hj' : j < xs.length := by simpa using hj
  have := hc j (i64 xs[j]) (by rw [List.getElem?_map, List.getElem?_eq_getElem hj']; rfl)
  rw [head_add] at this
  rw [Nat.zero_add]
  have e : xs.toArray[j]! = xs[j] := by simp [hj']
  rw [e]; exact this
theorem grow_none (w : World) : grow w #[] = w := by simp [grow]
theorem wr_put {w : World} {lo hi g n m k : Nat} {xs ys : List Int} {os : Array Obj} (h : Wr w lo hi (some ⟨g, 0, none⟩) n (xs.map i64)) (hn : 0 < n) (hl : ys.length = n) (hk : k ≤ n) : Wr (grow (putRow (Value.int .i64) (Sort.ahead w m) g 0 ys.toArray) os) lo hi (some ⟨g, 0, none⟩) k ((ys.take k).map i64) := by
  obtain ⟨hH, h1, h2, h3⟩ := holds_of h hn
  have hxl : xs.length = n := by have := h.1; simpa using this
  refine ⟨by simp [hl]; omega, fun _ => ⟨_, rfl, h1, h2, Nat.lt_of_lt_of_le h3 putW_size, fun j v hj => ?_⟩⟩
  rw [List.getElem?_map] at hj
  obtain ⟨y, hy, rfl⟩ := Option.map_eq_some_iff.1 hj
  rw [List.getElem?_take] at hy
  split at hy
  · rw [head_add]
    have hjl := (List.getElem?_eq_some_iff.1 hy).1
    have := putW_at (os := os) (m := m) h3 hH (d := ys.toArray) (by simp [hl, hxl]) (j := j) (by simpa using hjl)
    have e : ys.toArray[j]! = y := by
      have := (List.getElem?_eq_some_iff.1 hy).2
      simp [hjl, this]
    rw [e] at this; exact this
  · cases hy
def sortL (xs : List Int) : List Int := xs.mergeSort fun x y => decide (x ≤ y)
theorem sortL_len (xs : List Int) : (sortL xs).length = xs.length := List.length_mergeSort xs
theorem sortL_mem {xs : List Int} {y : Int} : y ∈ sortL xs ↔ y ∈ xs := (List.mergeSort_perm xs _).mem_iff
theorem compact_le (zs : List Int) : (Lib.compact zs).length ≤ zs.length := by
  unfold Lib.compact Lib.compactUpTo
  rw [List.length_map]
  have := List.length_filter_le (Lib.keeps zs.toArray) (List.range zs.length)
  simpa using this
theorem compact_mem {zs : List Int} {y : Int} : y ∈ Lib.compact zs ↔ y ∈ zs := by
  unfold Lib.compact Lib.compactUpTo
  rw [List.mem_map]
  constructor
  · rintro ⟨j, hj, rfl⟩
    have hj' : j < zs.length := by simpa using (List.mem_filter.1 hj).1
    simp only [List.getElem!_toArray]
    rw [List.getElem!_eq_getElem?_getD, List.getElem?_eq_getElem hj']
    exact List.getElem_mem hj'
  · intro hy
    obtain ⟨j, hj, rfl⟩ := List.mem_iff_getElem.1 hy
    clear hy
    induction j with
    | zero => exact ⟨0, List.mem_filter.2 ⟨by simpa using hj, by simp [Lib.keeps]⟩, by simp [hj]⟩
    | succ j ih =>
      by_cases he : zs.toArray[j + 1]! = zs.toArray[j + 1 - 1]!
      · obtain ⟨k, hk, e⟩ := ih (by omega)
        refine ⟨k, hk, e.trans ?_⟩
        have h1 : zs.toArray[j + 1]! = zs[j + 1] := by simp [hj]
        have h2 : zs.toArray[j + 1 - 1]! = zs[j] := by simp [show j < zs.length by omega]
        rw [← h1, ← h2, he]
      · exact ⟨j + 1, List.mem_filter.2 ⟨by simpa using hj, Lib.keeps_pos he⟩, by simp [hj]⟩
def normV (xs : List Int) : List Int := Lib.compact (sortL xs)
theorem normV_mem {xs : List Int} {y : Int} : y ∈ normV xs ↔ y ∈ xs := by rw [normV, compact_mem, sortL_mem]
theorem normV_len (xs : List Int) : (normV xs).length ≤ xs.length := by have := compact_le (sortL xs); rw [sortL_len] at this; exact this
theorem normV_nil (xs : List Int) : normV xs = [] ↔ xs = [] := by
  constructor
  · intro h; apply List.eq_nil_iff_forall_not_mem.2; intro y hy; rw [← normV_mem, h] at hy; cases hy
  · intro h; subst h; exact List.length_eq_zero_iff.1 (Nat.le_zero.1 (normV_len []))
theorem sortI_c (g n cp lo hi : Nat) (xs : List Int) (w : World) (h : Wr w lo hi (some ⟨g, 0, none⟩) n (xs.map i64)) (hn : n ≤ 1000000) :
    Calls Try.prog 49 #[.slice (some ⟨g, 0, none⟩) n cp] w fun e w' => e = .returned (.tuple #[]) ∧ Wr w' lo hi (some ⟨g, 0, none⟩) n ((sortL xs).map i64) ∧ Below lo w w' := by
  have hxl : xs.length = n := by have := h.1; simpa using this
  by_cases h0 : 0 < n
  · obtain ⟨hH, h1, h2, h3⟩ := holds_of h h0
    have hc := Try.slices_Sort_int g 0 cp xs w hH h3 (by omega)
    rw [hxl] at hc
    refine hc.mono ?_
    rintro e w' ⟨rfl, m, os, rfl⟩
    refine ⟨rfl, ?_, putW_below h1 h3⟩
    have := wr_put (k := n) (m := m) (os := os) (ys := sortL xs) h h0 (by rw [sortL_len, hxl]) (Nat.le_refl _)
    rw [List.take_of_length_le (by rw [sortL_len, hxl]; exact Nat.le_refl _)] at this
    exact this
  · obtain rfl : n = 0 := by omega
    obtain rfl : xs = [] := List.length_eq_zero_iff.1 hxl
    refine (Try.slices_Sort_int_none (some ⟨g, 0, none⟩) cp w).mono ?_
    rintro e w' ⟨rfl, rfl⟩
    exact ⟨rfl, by rw [show sortL [] = [] from List.length_eq_zero_iff.1 (sortL_len [])]; exact Wr.nil, Below.refl _ _⟩
theorem compactI_c (g n cp lo hi : Nat) (xs : List Int) (w : World) (h : Wr w lo hi (some ⟨g, 0, none⟩) n (xs.map i64)) (hn : n ≤ 1000000) (hc : n ≤ cp) :
    Calls Try.prog 50 #[.slice (some ⟨g, 0, none⟩) n cp] w fun e w' => e = .returned (.slice (some ⟨g, 0, none⟩) (Lib.compact xs).length cp) ∧ Wr w' lo hi (some ⟨g, 0, none⟩) (Lib.compact xs).length ((Lib.compact xs).map i64) ∧ Below lo w w' := by
  have hxl : xs.length = n := by have := h.1; simpa using this
  by_cases h0 : 0 < n
  · obtain ⟨hH, h1, h2, h3⟩ := holds_of h h0
    have hcc := Try.slices_Compact_int g 0 cp xs w hH (by omega) (by omega)
    rw [hxl] at hcc
    refine hcc.mono ?_
    rintro e w' ⟨rfl, q, rfl⟩
    have hle := compact_le xs
    have := wr_put (k := (Lib.compact xs).length) (m := q) (os := #[]) (ys := Lib.compact xs ++ List.replicate (n - (Lib.compact xs).length) 0) h h0 (by simp; omega) (by omega)
    rw [grow_none, List.take_left' rfl] at this
    have hb := putW_below (w := w) (m := q) (os := #[]) (enc := Value.int .i64) (d := (Lib.compact xs ++ List.replicate (n - (Lib.compact xs).length) 0).toArray) h1 h3
    rw [grow_none] at hb
    exact ⟨rfl, this, hb⟩
  · obtain rfl : n = 0 := by omega
    obtain rfl : xs = [] := List.length_eq_zero_iff.1 hxl
    refine (Try.slices_Compact_int_empty (some ⟨g, 0, none⟩) cp w).mono ?_
    rintro e w' ⟨rfl, rfl⟩
    exact ⟨rfl, Wr.nil, Below.refl _ _⟩
end Go.Proofs.Ytecpbgmcednpoaa
