/-
  Copies and reversals of lists of numbers, empty ones too; the head and the rest of a tape's side.
-/
import Derived.Test.YtmmgejnhfpfmnaaC05c
import Derived.Test.YtmmgejnhfpfmnaaApp
import Derived.Deep.Upon
namespace Go.Proofs.Ytmmgejnhfpfmnaa
open Go.RowKit

theorem l00OwnG_c (A : Option Addr) (n c : Nat) (ws : List Int) (w : World) (h : RdI w A n ws) (hn : n ≤ 1000000) :
    Calls Try.prog 80 #[.slice A n c] w fun e w' => ∃ A' cap, e = .returned (.slice A' n cap) ∧ Wr w' w.heap.size w'.heap.size A' n (ws.map i64) ∧ Below w.heap.size w w' := by
  by_cases h0 : 0 < n
  · obtain ⟨hl, hc⟩ := h
    obtain ⟨ad, rfl, hab, hcs⟩ := hc h0
    have HL := Lib.hid hl
    have HC := Lib.hid (show ∀ j u, (ws.map i64)[j]? = some u → (w.alloc (.cells #[] 2)).cell? (ad.add j) = some u from fun j u hj => keepa _ (hcs j u hj))
    clear hl hc hcs
    go_enter Try.func80, Try.ntmps80
    go_wp2_with (at_builtin; refine wp_app (by rfl) _ _ 25 2 (.int .i64 0) 1 8 (by rfl) Try.underlying25 info_i64 rfl (by omega) w.heap.size (some ⟨w.heap.size, 0, none⟩) 0 0 [] (by rfl) (by exact Own.lit (Nat.le_refl _)) ad n c (ws.map i64) (by rfl) h0 (by rw [HL.out, Nat.mul_one]) (by exact HC.out) (by intro u hu; obtain ⟨y, _, rfl⟩ := List.mem_map.1 hu; rfl) (by omega) (by omega) (by simp) ?_; intro g' cap w2 own2 hb2 hk2 hg2 hz2)
    rw [Nat.zero_add, List.nil_append] at own2
    have O2 := Lib.hid own2; have B2 := Lib.hid ((below_size.alloc (Nat.le_refl _) (.cells #[] 2)).trans hb2)
    clear own2 hb2 hk2 hg2 hz2
    go_wp2_with fail
    go_ret
    exact ⟨some ⟨g', 0, none⟩, cap, by simp, O2.out.wr, B2.out⟩
  · obtain rfl : n = 0 := by omega
    have hws : ws = [] := List.length_eq_zero_iff.1 h.len
    subst hws
    clear h h0
    go_enter Try.func80, Try.ntmps80
    go_wp2_with (at_builtin; refine wp_app0 (by rfl) _ _ 25 2 (.int .i64 0) 1 8 (by rfl) Try.underlying25 info_i64 (some ⟨w.heap.size, 0, none⟩) 0 0 (by rfl) (by omega) A c (by rfl) ?_)
    go_ret
    exact ⟨_, _, by rfl, Wr.nil, below_size.alloc (Nat.le_refl _) _⟩
set_option maxRecDepth 100000 in
theorem cloneG_c (A : Option Addr) (n c : Nat) (ws : List Int) (w : World) (h : RdI w A n ws) (hn : n ≤ 1000000) :
    Calls Try.prog 62 #[.slice A n c] w fun e w' => ∃ A' cap, e = .returned (.slice A' n cap) ∧ Wr w' w.heap.size w'.heap.size A' n (ws.map i64) ∧ Below w.heap.size w w' := by
  by_cases h0 : 0 < n
  · obtain ⟨hl, hc⟩ := h
    obtain ⟨ad, rfl, hab, hcs⟩ := hc h0
    have HL := Lib.hid hl
    have HC := Lib.hid (show ∀ j u, (ws.map i64)[j]? = some u → (w.alloc (.cells #[] 2)).cell? (ad.add j) = some u from fun j u hj => keepa _ (hcs j u hj))
    clear hl hc hcs
    have he : ∀ w, (binOp BinOp.eql 25 (Value.slice (some ad) n c) (Value.slice none 0 0)).run Try.prog w = .ok (.bool false) w := fun w => by kernel_rfl
    go_enter Try.func62, Try.ntmps62
    go_wp2_with (at_builtin; refine wp_app (by rfl) _ _ 25 2 (.int .i64 0) 1 8 (by rfl) Try.underlying25 info_i64 rfl (by omega) w.heap.size (some ⟨w.heap.size, 0, none⟩) 0 0 [] (by rfl) (by exact Own.lit (Nat.le_refl _)) ad n c (ws.map i64) (by rfl) h0 (by rw [HL.out, Nat.mul_one]) (by exact HC.out) (by intro u hu; obtain ⟨y, _, rfl⟩ := List.mem_map.1 hu; rfl) (by omega) (by omega) (by simp) ?_; intro g' cap w2 own2 hb2 hk2 hg2 hz2)
    rw [Nat.zero_add, List.nil_append] at own2
    have O2 := Lib.hid own2; have B2 := Lib.hid ((below_size.alloc (Nat.le_refl _) (.cells #[] 2)).trans hb2)
    clear own2 hb2 hk2 hg2 hz2
    go_wp2_with fail
    go_ret
    exact ⟨some ⟨g', 0, none⟩, cap, by simp, O2.out.wr, B2.out⟩
  · obtain rfl : n = 0 := by omega
    have hws : ws = [] := List.length_eq_zero_iff.1 h.len
    subst hws
    clear h h0
    cases A with
    | none =>
      have he : ∀ w, (binOp BinOp.eql 25 (Value.slice none 0 c) (Value.slice none 0 0)).run Try.prog w = .ok (.bool true) w := fun w => by kernel_rfl
      go_enter Try.func62, Try.ntmps62
      go_wp2_with fail
      go_ret
      exact ⟨none, 0, by rfl, Wr.nil, below_size⟩
    | some ad =>
      have he : ∀ w, (binOp BinOp.eql 25 (Value.slice (some ad) 0 c) (Value.slice none 0 0)).run Try.prog w = .ok (.bool false) w := fun w => by kernel_rfl
      go_enter Try.func62, Try.ntmps62
      go_wp2_with (at_builtin; refine wp_app0 (by rfl) _ _ 25 2 (.int .i64 0) 1 8 (by rfl) Try.underlying25 info_i64 (some ⟨w.heap.size, 0, none⟩) 0 0 (by rfl) (by omega) (some ad) c (by rfl) ?_)
      go_ret
      exact ⟨_, _, by rfl, Wr.nil, below_size.alloc (Nat.le_refl _) _⟩
/-! ### Reversing in place -/
/-- the list while it is reversed: i swaps have been made -/
def RevAt (xs cs : List Int) (i : Nat) : Prop := cs.length = xs.length ∧ ∀ p, p < xs.length → cs[p]? = if p < i ∨ xs.length - i ≤ p then xs[xs.length - 1 - p]? else xs[p]?
theorem RevAt.start (xs : List Int) : RevAt xs xs 0 := ⟨rfl, fun p hp => by rw [if_neg (by omega)]⟩
theorem RevAt.done {xs cs : List Int} {i : Nat} (h : RevAt xs cs i) (hi : xs.length ≤ i + i + 1) : cs = xs.reverse := by
  apply List.ext_getElem?
  intro p
  by_cases hp : p < xs.length
  · rw [h.2 p hp, List.getElem?_reverse hp]
    split
    · rfl
    · congr 1; omega
  · rw [List.getElem?_eq_none (by rw [h.1]; omega), List.getElem?_eq_none (by rw [List.length_reverse]; omega)]
theorem RevAt.step {xs cs : List Int} {i j : Nat} {a b : Int} (h : RevAt xs cs i) (hj : j + i + 1 = xs.length) (hij : i < j) (ha : cs[i]? = some a) (hb : cs[j]? = some b) : RevAt xs ((cs.set i b).set j a) (i + 1) := by
  refine ⟨by rw [List.length_set, List.length_set]; exact h.1, fun p hp => ?_⟩
  have hl := h.1
  by_cases h1 : p = j
  · subst h1
    rw [List.getElem?_set_self (by rw [List.length_set]; omega), if_pos (by omega), ← ha, h.2 i (by omega), if_neg (by omega)]
    congr 1; omega
  · rw [List.getElem?_set_ne (fun e => h1 e.symm)]
    by_cases h2 : p = i
    · subst h2
      rw [List.getElem?_set_self (by omega), if_pos (by omega), ← hb, h.2 j (by omega), if_neg (by omega)]
      congr 1; omega
    · rw [List.getElem?_set_ne (fun e => h2 e.symm), h.2 p hp]
      by_cases h3 : p < i ∨ xs.length - i ≤ p
      · rw [if_pos h3, if_pos (by omega)]
      · rw [if_neg h3, if_neg (by omega)]
theorem keepR_drew {lo hi : Nat} {a w : World} (h : KeepR lo hi a w) : KeepR lo hi a w.drew := ⟨h.os, h.tape, h.output, h.size, h.block⟩
set_option maxHeartbeats 2000000 in
set_option maxRecDepth 100000 in
theorem reverse_c (A : Option Addr) (n c : Nat) (xs : List Int) (lo hi : Nat) (w : World) (h : Wr w lo hi A n (xs.map i64)) (hn : n ≤ 1000000) :
    Calls Try.prog 152 #[.slice A n c] w fun e w' => (∃ v, e = .returned v) ∧ Wr w' lo hi A n (xs.reverse.map i64) ∧ KeepR lo hi w w' := by
  have HL := Lib.hid (show xs.length = n by simpa using h.1)
  have H := Lib.hid h; clear h
  by_cases h0 : n = 0
  · subst h0
    have hws : xs = [] := List.length_eq_zero_iff.1 HL.out
    subst hws
    go_enter Try.func152, Try.ntmps152
    go_wp2_with fail
    go_loopw [2, 3] (fun iv jv wr => iv = .int .i64 0 ∧ jv = .int .i64 (-1) ∧ w = wr) (fun _ _ _ => 0)
    case atStart => exact ⟨rfl, rfl, rfl⟩
    case round =>
      obtain ⟨rfl, rfl, rfl⟩ := hrel
      go_wp2_with fail
      go_end0
      exact ⟨⟨_, rfl⟩, H.out, KeepR.refl _ _ _⟩
  go_enter Try.func152, Try.ntmps152
  go_wp2_with fail
  go_loopw [2, 3] (fun iv jv wr => ∃ (i j : Nat) (cs : List Int), iv = .int .i64 i ∧ jv = .int .i64 j ∧ j < n ∧ Hid (j + i + 1 = n) ∧ i ≤ n ∧ Hid (RevAt xs cs i) ∧ Hid (Wr wr lo hi A n (cs.map i64)) ∧ Hid (KeepR lo hi w wr)) (fun iv _ _ => n - (intOf iv).toNat)
  case atStart => exact ⟨0, n - 1, xs, rfl, (by go_num), by omega, by unfold Hid; omega, by omega, RevAt.start xs, H.out, KeepR.refl _ _ _⟩
  case round =>
    obtain ⟨i, j, cs, rfl, rfl, hj, hij, hin, hr, hW, hK⟩ := hrel
    by_cases hlt : i < j
    · obtain ⟨ad, x, rfl, hB, hh, hab, hx, hcx, hfx⟩ := hW.out.at_ (k := i) (by omega)
      obtain ⟨ad', y, e', _, _, _, hy, hcy, hfy⟩ := hW.out.at_ (k := j) hj
      injection e' with e'; subst e'
      rw [List.getElem?_map] at hx hy
      obtain ⟨a, ha, rfl⟩ := Option.map_eq_some_iff.1 hx
      obtain ⟨b, hb, rfl⟩ := Option.map_eq_some_iff.1 hy
      have HS := Lib.hid (hr.out.step (j := j) (by have := hij.out; rw [HL.out]; omega) hlt ha hb)
      have hW1 := hW.out.set (k := i) (by omega) (i64 b)
      have hW2 := hW1.set (k := j) hj (i64 a)
      have hfy1 : (wr.setCell (ad.add i) (i64 b)).frozen? (ad.add j) = false := by rw [World.frozen?_setCell]; exact hfy
      have hcy1 : (wr.setCell (ad.add i) (i64 b)).cell? (ad.add j) = some (i64 b) := by
        rw [World.cell?_setCell_other _ _ _ _ (fun e => by have := congrArg Addr.off e; rw [off_add, off_add] at this; omega)]; exact hcy
      have W2 := Lib.hid hW2
      have K2 := Lib.hid ((hK.out.setCell (p := ad.add i) (by rw [block_add]; exact hB) (by rw [block_add]; exact hh) (i64 b)).setCell (p := ad.add j) (by rw [block_add]; exact hB) (by rw [block_add]; exact hh) (i64 a))
      have x0 := Ext.cell hcx; have x1 := Ext.cell hcy
      clear hx hy ha hb hW1 hW2
      go_wp2_with fail
      refine Mix.wp_region_mix [0, 0, 0, 0, 0, 0, 0, 3, 0, 0, 0, 3, 0, 2, 0, 2] (fun w' => ∃ x : Ext wr, w' = x.w) (by kernel_rfl) (by kernel_rfl) (InExt.drew _) ?_
      repeat (first | (refine Mix.wpMix_read (by rfl) ?_; go_big_quiet_step (fail); refine wpQuiet_nil ?_) | (refine Mix.wpMix_pure (by rfl) ?_; go_big_quiet_step (fail); refine wpQuiet_nil ?_))
      refine Mix.wpMix_tail (by rfl) (fun K hK => ?_)
      go_wp2_with fail
      refine hK _ _ ?_
      clear hK K
      repeat (first | (refine Mix.wpMix_read (by rfl) ?_; go_big_quiet_step (fail); refine wpQuiet_nil ?_) | (refine Mix.wpMix_pure (by rfl) ?_; go_big_quiet_step (fail); refine wpQuiet_nil ?_))
      refine Mix.wpMix_tail (by rfl) (fun K hK => ?_)
      go_wp2_with fail
      refine hK _ _ ?_
      clear hK K
      (refine Mix.wpMix_nil ?_; try simp only [Exit.then])
      go_wp2_with fail
      go_roundw
      case rel => exact ⟨i + 1, j - 1, (cs.set i b).set j a, by go_num, by go_num, by omega, by have := hij.out; unfold Hid; omega, by omega, HS.out, by unfold Hid; rw [List.map_set, List.map_set]; exact W2.out, keepR_drew K2.out⟩
      case measure => simp [intOf]; omega
    · have HE := Lib.hid (show cs = xs.reverse from hr.out.done (by have := hij.out; rw [HL.out]; omega))
      go_wp2_with fail
      go_end0
      exact ⟨⟨_, rfl⟩, by rw [← HE.out]; exact hW.out, hK.out⟩
set_option maxHeartbeats 1000000 in
theorem reversed_c (A : Option Addr) (n c : Nat) (ws : List Int) (w : World) (h : RdI w A n ws) (hn : n ≤ 1000000) :
    Calls Try.prog 112 #[.slice A n c] w fun e w' => ∃ A' cap, e = .returned (.slice A' n cap) ∧ Wr w' w.heap.size w'.heap.size A' n (ws.reverse.map i64) ∧ Below w.heap.size w w' := by
  go_enter Try.func112, Try.ntmps112
  go_wp2_with fail
  refine (cloneG_c A n c ws _ h hn).mono ?_
  rintro e w1 ⟨A', cap, rfl, hw, hb⟩
  have W1 := Lib.hid hw; have B1 := Lib.hid hb
  clear hw hb h
  go_wp2_with fail
  refine (reverse_c A' n cap ws _ _ _ W1.out hn).mono ?_
  rintro e w2 ⟨⟨v, rfl⟩, hw, hk⟩
  have W2 := Lib.hid hw; have B2 := Lib.hid (B1.out.trans (hk.below (Nat.le_refl _) B1.out.size))
  have hz := hk.size
  clear hw hk
  go_wp2_with fail
  go_ret
  exact ⟨A', cap, rfl, W2.out.wider (Nat.le_refl _) hz, B2.out⟩
theorem drop_rev {ws : List Int} {k m : Nat} {x : Int} (hx : ws[k]? = some x) (hm : m = k + 1) : (ws.drop k).reverse = (ws.drop m).reverse ++ [x] := by rw [drop_at hx, List.reverse_cons, hm]
set_option maxHeartbeats 2000000 in
theorem l03Reverse_c (A : Option Addr) (n c : Nat) (ws : List Int) (w : World) (h : RdI w A n ws) (hn : n ≤ 1000000) :
    Calls Try.prog 108 #[.slice A n c] w fun e w' => ∃ A' cap, e = .returned (.slice A' n cap) ∧ Wr w' w.heap.size w'.heap.size A' n (ws.reverse.map i64) ∧ Below w.heap.size w w' := by
  have HL := Lib.hid h.len
  have H := Lib.hid h; clear h
  have v0 : IntKind.i64.wrap ((n : Int) - 1) = (n : Int) - 1 := IntWalk.i64_in _ (by omega)
  go_enter Try.func108, Try.ntmps108
  go_wp2_with fail
  clear v0
  go_loopw [3, 4] (fun sv iv wr => ∃ (k m : Nat) (O : Option Addr) (oc : Nat), iv = .int .i64 ((k : Int) - 1) ∧ sv = .slice O m oc ∧ k ≤ n ∧ Hid (m + k = n) ∧ m ≤ n ∧ Hid (Own wr w.heap.size 2 1 O m oc ((ws.drop k).reverse.map i64)) ∧ Below w.heap.size w wr) (fun _ iv _ => (intOf iv + 1).toNat)
  case atStart => exact ⟨n, 0, _, _, rfl, rfl, Nat.le_refl _, by unfold Hid; omega, by omega, by unfold Hid; rw [List.drop_eq_nil_of_le (by rw [HL.out]; exact Nat.le_refl _)]; exact Own.lit (Nat.le_refl _), below_size.alloc (Nat.le_refl _) _⟩
  case round =>
    obtain ⟨k, m, O, oc, rfl, rfl, hk, hmk, hm, hO, hb⟩ := hrel
    have HB := Lib.hid hb
    by_cases hlt : 0 < k
    · obtain ⟨k', rfl⟩ : ∃ k', k = k' + 1 := ⟨k - 1, by omega⟩
      obtain ⟨ad, x, rfl, hab, hx, hc⟩ := (H.out.below hb).at_ (k := k') (by omega)
      have HX := Lib.hid (drop_rev (m := k' + 1) hx rfl)
      have hz := hb.size
      have hk1 : (((k' + 1 : Nat) : Int) - 1) = (k' : Int) := by omega
      rw [hk1]
      clear hx hb hk1 hlt
      go_wp2_with (at_builtin; refine wp_app1 (by rfl) _ _ 25 2 (.int .i64 0) 8 (by rfl) Try.underlying25 info_i64 rfl w.heap.size O m oc ((ws.drop (k' + 1)).reverse.map i64) (by rfl) (by exact hO.out.alloc _) wr.heap.size (i64 x) (by rfl) (by exact new_cell _ _ _ 0) rfl (by omega) (by omega) (by simp; omega) ?_; intro g' cap w3 own3 hb3 hk3 hg3 hz3)
      have O3 := Lib.hid own3
      have B3 := Lib.hid (HB.out.trans (((below_size.alloc (Nat.le_refl _) _).mono (by omega)).trans hb3))
      clear own3 hb3 hk3 hg3
      go_wp2_with fail
      go_roundw
      case rel => exact ⟨k', m + 1, some ⟨g', 0, none⟩, cap, by go_num, rfl, by omega, by have := hmk.out; unfold Hid; omega, by have := hmk.out; omega, by unfold Hid; rw [HX.out, List.map_append]; exact O3.out, B3.out⟩
      case measure => simp [intOf]
    · obtain rfl : k = 0 := by omega
      have HE := Lib.hid (show m = n by have := hmk.out; omega)
      clear hb
      go_wp2_with fail
      go_ret
      have h1 := hO.out.wr
      rw [List.drop_zero, HE.out] at h1
      exact ⟨O, oc, by rw [HE.out]; rfl, h1, HB.out⟩
/-- a part of a list that is there -/
def BeyOut (n : Nat) (xs : List Int) (w : World) (e : Ending) (w' : World) : Prop := ∃ A' m cap, e = .returned (.slice A' m cap) ∧ m ≤ n ∧ RdI w A' m xs ∧ w = w'
end Go.Proofs.Ytmmgejnhfpfmnaa
