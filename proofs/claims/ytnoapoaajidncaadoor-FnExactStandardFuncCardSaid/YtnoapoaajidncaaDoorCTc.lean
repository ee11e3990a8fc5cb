/-
  Texts, third part: the program's numerals and joins (Decimal, decimals, digitsText, wordText), over the library's contracts.
-/
import Derived.Test.YtnoapoaajidncaaDoorCTb
import Derived.Test.YtnoapoaajidncaaDoorShelfF
import Derived.Lib.SmallJoins
import Derived.Lib.AppendIntMem
namespace Go.Proofs.YtnoapoaajidncaaDoor
open Go.RowKit

/-- the table of the powers of ten is laid -/
def Tab (w : World) : Prop := Lib.TabIs Tryd.prog w "internal/strconv.uint64pow10" .u64 Lib.pow10Tab
theorem tab_global : (Tryd.prog.globalNamed "internal/strconv.uint64pow10").isSome = true := by kernel_rfl
theorem Tab.below {w w' : World} (h : Tab w) (hb : Below w.heap.size w w') : Tab w' := by
  obtain ⟨g, hg⟩ := Option.isSome_iff_exists.1 tab_global
  exact Joins.tab_stays hg h hb (Nat.le_refl _)
theorem Tab.alloc {w : World} (h : Tab w) (o : Obj) : Tab (w.alloc o) := h.below (below_size.alloc (Nat.le_refl _) o)
theorem Tab.drew {w : World} (h : Tab w) : Tab w.drew := h.below (below_drew below_size)
theorem Tab.drewN {w : World} (h : Tab w) (n : Nat) : Tab (w.drewN n) := h.below (below_drewN below_size n)

theorem bs_list (l : List UInt8) : (bs l).data.toList = l := by simp [bs]
theorem bs_cells (l : List UInt8) : Lib.strCells (bs l) = Lib.byteCells l := by simp [Lib.strCells, Lib.byteCells, bs]
theorem byteCells_app (a b : List UInt8) : Lib.byteCells (a ++ b) = Lib.byteCells a ++ Lib.byteCells b := by simp [Lib.byteCells]
theorem info_str : (Tryd.prog.info? 9).map (fun i => (i.zero, i.size, i.bytes)) = some (some (.string ⟨#[]⟩), 1, 16) := by kernel_rfl
set_option maxHeartbeats 1000000 in
set_option maxRecDepth 100000 in
theorem Decimal_c (n : Int) (w : World) (h0 : -9223372036854775808 ≤ n) (h1 : n ≤ 9223372036854775807) (ht : Tab w) :
    Calls Tryd.prog 42 #[.int .i64 n] w fun e w' => e = .returned (.string (bs (Lib.itoa n))) ∧ Below w.heap.size w w' := by
  have HT := Lib.hid ht; clear ht
  go_enter Tryd.func42, Tryd.ntmps42
  go_wp2_with (go_at_call 52; refine (Tryd.strconv_FormatInt_10 n h0 h1 _ HT.out).mono ?_; rintro e w1 ⟨rfl, kd, os, rfl⟩)
  go_ret
  exact ⟨rfl, Lib.below_grow _ _ (Nat.le_refl _) kd os⟩
theorem Join_c (A : Option Addr) (n c B : Nat) (L : List (List UInt8)) (sep : List UInt8) (w : World) (h : Own w B 9 1 A n c (L.map fun l => .string (bs l))) (hn : n ≤ 100000000) (hlen : (Lib.join L sep).length ≤ 140737488355328) :
    Calls Tryd.prog 43 #[.slice A n c, .string (bs sep)] w fun e w' => e = .returned (.string (bs (Lib.join L sep))) ∧ Below w.heap.size w w' := by
  have hl : L.length = n := by have := h.1; simpa using this
  by_cases h0 : n = 0
  · subst h0
    obtain rfl := List.length_eq_zero_iff.1 hl
    refine (Tryd.strings_Join_none A c (bs sep) w).mono ?_
    rintro e w' ⟨rfl, rfl⟩
    exact ⟨rfl, below_size⟩
  obtain ⟨ad, _, rfl, _, _, hab, _, _, _⟩ := h.wr.at_ (k := 0) (by omega)
  have hblk := (h.block rfl).2.2.1
  have hcap := h.cap
  obtain ⟨g, rfl⟩ : ∃ g, ad = ⟨g, 0, none⟩ := ⟨_, hblk⟩
  have hx : (L.map bs).map (·.data.toList) = L := by rw [List.map_map]; simp [Function.comp_def, bs_list]
  have hj := Tryd.strings_Join g 0 c (L.map bs) (bs sep) w (fun j x hx => by
      have hjl : j < n := by have := (List.getElem?_eq_some_iff.1 hx).1; simp at this; omega
      obtain ⟨_, v, e1, _, _, _, hv, hc, _⟩ := h.wr.at_ hjl
      injection e1 with e1; subst e1
      rw [head_add] at hc
      rw [Nat.zero_add, hc, ← hv, List.getElem?_map]
      rw [List.getElem?_map] at hx
      cases hL : L[j]? with
      | none => rw [hL] at hx; cases hx
      | some y => rw [hL] at hx; injection hx with hx; subst hx; rfl)
    hab (by rw [List.length_map]; omega) (by rw [List.length_map]; omega) (by rw [hx, bs_list]; exact hlen)
  rw [hx, bs_list, List.length_map, hl] at hj
  exact hj
end Go.Proofs.YtnoapoaajidncaaDoor
