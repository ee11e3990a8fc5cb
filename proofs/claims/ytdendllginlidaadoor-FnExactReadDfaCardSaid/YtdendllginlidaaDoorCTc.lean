/-
  Texts, third part: the program's numerals and joins (Decimal, decimals, digitsText, wordText), over the library's contracts.
-/
import Derived.Test.YtdendllginlidaaDoorCTb
import Derived.Test.YtdendllginlidaaDoorShelfU
import Derived.Lib.SmallJoins
import Derived.Lib.AppendIntMem
namespace Go.Proofs.YtdendllginlidaaDoor
open Go.RowKit

/-- the table of the powers of ten is laid -/
def Tab (w : World) : Prop := Lib.TabIs Tryd.prog w "internal/strconv.uint64pow10" .u64 Lib.pow10Tab
theorem tab_global : (Tryd.prog.globalNamed "internal/strconv.uint64pow10").isSome = true := by kernel_rfl
theorem Tab.below {w w' : World} (h : Tab w) (hb : Below w.heap.size w w') : Tab w' := by
  obtain ⟨g, hg⟩ := Option.isSome_iff_exists.1 tab_global
  exact Joins.tab_stays hg h hb (Nat.le_refl _)
theorem Tab.alloc {w : World} (h : Tab w) (o : Obj) : Tab (w.alloc o) := h.below (below_size.alloc (Nat.le_refl _) o)
theorem Tab.drew {w : World} (h : Tab w) : Tab w.drew := h.below (below_drew below_size)
theorem Tab.drewN {w : World} (h : Tab w) (n : Nat) : Tab (w.drewN n) := h.below (below_drewN below_size n)

theorem bs_list (l : List UInt8) : (bs l).data.toList = l := by simp [bs]
theorem bs_cells (l : List UInt8) : Lib.strCells (bs l) = Lib.byteCells l := by simp [Lib.strCells, Lib.byteCells, bs]
theorem byteCells_app (a b : List UInt8) : Lib.byteCells (a ++ b) = Lib.byteCells a ++ Lib.byteCells b := by simp [Lib.byteCells]
theorem info_str : (Tryd.prog.info? 9).map (fun i => (i.zero, i.size, i.bytes)) = some (some (.string ⟨#[]⟩), 1, 16) := by kernel_rfl
set_option maxHeartbeats 1000000 in
set_option maxRecDepth 100000 in
theorem Decimal_c (n : Int) (w : World) (h0 : -9223372036854775808 ≤ n) (h1 : n ≤ 9223372036854775807) (ht : Tab w) :
    Calls Tryd.prog 35 #[.int .i64 n] w fun e w' => e = .returned (.string (bs (Lib.itoa n))) ∧ Below w.heap.size w w' := by
  have HT := Lib.hid ht; clear ht
  go_enter Tryd.func35, Tryd.ntmps35
  go_wp2_with (go_at_call 47; refine (Tryd.strconv_FormatInt_10 n h0 h1 _ HT.out).mono ?_; rintro e w1 ⟨rfl, kd, os, rfl⟩)
  go_ret
  exact ⟨rfl, Lib.below_grow _ _ (Nat.le_refl _) kd os⟩
theorem Join_c (A : Option Addr) (n c B : Nat) (L : List (List UInt8)) (sep : List UInt8) (w : World) (h : Own w B 9 1 A n c (L.map fun l => .string (bs l))) (hn : n ≤ 100000000) (hlen : (Lib.join L sep).length ≤ 140737488355328) :
    Calls Tryd.prog 32 #[.slice A n c, .string (bs sep)] w fun e w' => e = .returned (.string (bs (Lib.join L sep))) ∧ Below w.heap.size w w' := by
  have hl : L.length = n := by have := h.1; simpa using this
  by_cases h0 : n = 0
  · subst h0
    obtain rfl := List.length_eq_zero_iff.1 hl
    refine (Tryd.strings_Join_none A c (bs sep) w).mono ?_
    rintro e w' ⟨rfl, rfl⟩
    exact ⟨rfl, below_size⟩
  obtain ⟨ad, _, rfl, _, _, hab, _, _, _⟩ := h.wr.at_ (k := 0) (by omega)
  have hblk := (h.block rfl).2.2.1
  have hcap := h.cap
  obtain ⟨g, rfl⟩ : ∃ g, ad = ⟨g, 0, none⟩ := ⟨_, hblk⟩
  have hx : (L.map bs).map (·.data.toList) = L := by rw [List.map_map]; simp [Function.comp_def, bs_list]
  have hj := Tryd.strings_Join g 0 c (L.map bs) (bs sep) w (fun j x hx => by
      have hjl : j < n := by have := (List.getElem?_eq_some_iff.1 hx).1; simp at this; omega
      obtain ⟨_, v, e1, _, _, _, hv, hc, _⟩ := h.wr.at_ hjl
      injection e1 with e1; subst e1
      rw [head_add] at hc
      rw [Nat.zero_add, hc, ← hv, List.getElem?_map]
      rw [List.getElem?_map] at hx
      cases hL : L[j]? with
      | none => rw [hL] at hx; cases hx
      | some y => rw [hL] at hx; injection hx with hx; subst hx; rfl)
    hab (by rw [List.length_map]; omega) (by rw [List.length_map]; omega) (by rw [hx, bs_list]; exact hlen)
  rw [hx, bs_list, List.length_map, hl] at hj
  exact hj
set_option maxHeartbeats 1000000 in
set_option maxRecDepth 100000 in
theorem decimals_c (A : Option Addr) (n c : Nat) (xs : List Int) (sep : UInt8) (w : World) (h : RdI w A n xs) (hn : n ≤ 10000000) (hx : i64s xs) (ht : Tab w) :
    Calls Tryd.prog 31 #[.slice A n c, .string ⟨#[sep]⟩] w fun e w' => e = .returned (.string (bs (Lib.join (xs.map Lib.itoa) [sep]))) ∧ Below w.heap.size w w' := by
  have HX := Lib.hid hx; clear hx
  have HL := Lib.hid h.len
  have H := Lib.hid h; clear h
  have HT := Lib.hid ht; clear ht
  go_enter Tryd.func31, Tryd.ntmps31
  go_wp2_with fail
  go_loopw [5, 11] (fun v iv wr => ∃ (k : Nat) (C : Option Addr) (cc : Nat), iv = .int .i64 k ∧ v = .slice C k cc ∧ k ≤ n ∧ Own wr w.heap.size 9 1 C k cc (((xs.take k).map Lib.itoa).map fun l => .string (bs l)) ∧ Below w.heap.size w wr) (fun _ iv _ => n - (intOf iv).toNat)
  case atStart => exact ⟨0, _, _, rfl, rfl, by omega, Own.lit (Nat.le_refl _), below_size.alloc (Nat.le_refl _) _⟩
  case round =>
    obtain ⟨k, C, cc, rfl, rfl, hk, own, hb⟩ := hrel
    have HO := Lib.hid own; have HB := Lib.hid hb
    have hbs := hb.size
    by_cases hlt : k < n
    · obtain ⟨ad, x, rfl, hab, hx, hcx⟩ := (H.out.below hb).at_ hlt
      have hxb := HX.out x (List.mem_of_getElem? hx)
      have HE := Lib.hid (show ((xs.take (k + 1)).map Lib.itoa).map (fun l => Value.string (bs l)) = ((xs.take k).map Lib.itoa).map (fun l => Value.string (bs l)) ++ [.string (bs (Lib.itoa x))] by rw [List.take_add_one, hx]; simp)
      have HT2 := Lib.hid (HT.out.below hb)
      clear hx hb own
      go_wp2_with (first
        | (go_at_call 35; refine (Decimal_c x _ hxb.1 hxb.2 HT2.out).mono ?_; rintro e w1 ⟨rfl, hb1⟩; have B1 := Lib.hid (HB.out.trans (hb1.mono HB.out.size)); have O1 := Lib.hid (HO.out.keep hb1); have z1 := hb1.size; clear hb1 HO HB)
        | (at_builtin; refine wp_app1 (by rfl) _ _ 30 9 (.string ⟨#[]⟩) 16 (by rfl) Tryd.underlying30 info_str rfl w.heap.size C k cc (((xs.take k).map Lib.itoa).map fun l => .string (bs l)) (by rfl) (by exact O1.out.alloc _) w1.heap.size (.string (bs (Lib.itoa x))) (by rfl) (by exact new_cell _ _ _ 0) rfl (by omega) (by omega) (by simp; omega) ?_; intro g' cap w2 own2 hb2 hk2 hg2 hz2))
      have O2 := Lib.hid own2; have HB2 := Lib.hid hb2
      clear own2 hb2 hk2 hg2 hz2
      go_wp2_with fail
      go_roundw
      case rel => exact ⟨k + 1, some ⟨g', 0, none⟩, cap, by go_num, rfl, by omega, by rw [HE.out]; exact O2.out, (B1.out.alloc B1.out.size _).trans HB2.out⟩
      case measure => simp [intOf]; omega
    · obtain rfl : k = n := by omega
      have HR := Lib.hid (show xs.take k = xs from List.take_of_length_le (by rw [HL.out]; exact Nat.le_refl _))
      have hlen : (Lib.join (xs.map Lib.itoa) [sep]).length ≤ 140737488355328 := by
        have h1 := csv_len (sep := sep) HX.out k
        rw [← List.map_take, HR.out] at h1
        omega
      clear hb own
      go_wp2_with (go_at_call 32; refine (Join_c C k cc w.heap.size (xs.map Lib.itoa) [sep] _ (by have := HO.out; rw [HR.out] at this; exact this) (by omega) hlen).mono ?_; rintro e w2 ⟨rfl, hb2⟩)
      go_ret
      exact ⟨rfl, HB.out.trans (hb2.mono HB.out.size)⟩
end Go.Proofs.YtdendllginlidaaDoor
