/-
  Contracts of chapter 23: TreeExpr.
-/
import Derived.Test.YtplcpldbenjjgaaC21f
import Derived.Test.YtplcpldbenjjgaaLawExpr
namespace Go.Proofs.Ytplcpldbenjjgaa
open Go.RowKit

def exprOf (b : Bool) : Int × Int := (if b then 2 else 0, 0)
def exR (xs : List Bool) : List (Int × Int) × Int := if treeB xs then (if xs.length ≤ 40 then (xs.map exprOf, 0) else ([], 5)) else ([], 1)
theorem info_Expr2 : (Try.prog.info? 128).map (fun i => (i.zero, i.size, i.bytes)) = some (some (.agg #[.int .i64 0, .int .i64 0]), 2, 16) := by kernel_rfl
theorem enc_snoc (l : List Bool) (b : Bool) : ((l ++ [b]).map exprOf).flatMap enc2 = (l.map exprOf).flatMap enc2 ++ [i64 (if b then 2 else 0), i64 0] := by simp [enc2, exprOf]

set_option maxHeartbeats 2000000 in
set_option maxRecDepth 100000 in
theorem l23Expr_c (A : Option Addr) (n c : Nat) (xs : List Bool) (w : World) (h : RdB w A n xs) (hn : n ≤ 1000000) :
    Calls Try.prog 96 #[.slice A n c] w fun e w' => ∃ A' c', e = .returned (.slice A' n c') ∧ Wr w' w.heap.size w'.heap.size A' (n * 2) ((xs.map exprOf).flatMap enc2) ∧ Below w.heap.size w w' := by
  have HL := Lib.hid h.len
  have H := Lib.hid h; clear h
  go_enter Try.func96, Try.ntmps96
  go_wp2_with fail
  go_loopw [3, 4] (fun v iv wr => ∃ (k : Nat) (C : Option Addr) (cc : Nat), k ≤ n ∧ v = .slice C k cc ∧ iv = .int .i64 k ∧ Own wr w.heap.size 128 2 C k cc (((xs.take k).map exprOf).flatMap enc2) ∧ Below w.heap.size w wr) (fun _ iv _ => n - (intOf iv).toNat)
  case atStart => exact ⟨0, _, 0, by omega, rfl, rfl, Own.litK (Nat.le_refl _), below_size.alloc (Nat.le_refl _) _⟩
  case round =>
    obtain ⟨k, C, cc, hk, rfl, rfl, own, hb⟩ := hrel
    have HO := Lib.hid own; have HB := Lib.hid hb
    have hBs := hb.size
    clear own hb
    by_cases hlt : k < n
    · obtain ⟨ad, x, rfl, hab, hx, hc0⟩ := (H.out.below HB.out).at_ hlt
      have hc1 : ∀ o, (wr.alloc o).cell? (ad.add k) = some (.bool x) := fun o => keepa o hc0
      have HT := Lib.hid (show ((xs.take (k + 1)).map exprOf).flatMap enc2 = ((xs.take k).map exprOf).flatMap enc2 ++ [i64 (if x then 2 else 0), i64 0] by rw [take_at hx, enc_snoc])
      clear hx hc0
      cases x
      · go_wp2_with (at_builtin; refine wp_app (by rfl) _ _ 51 128 (.agg #[.int .i64 0, .int .i64 0]) 2 16 (by rfl) Try.underlying51 info_Expr2 rfl (by omega) w.heap.size C k cc (((xs.take k).map exprOf).flatMap enc2) (by rfl) (by exact (HO.out.alloc _).alloc _) ⟨wr.heap.size + 1, 0, none⟩ 1 1 [i64 0, i64 0] (by rfl) (by omega) (by simp) (by exact new_cells2 _ _ _ _) (by exact one_ints [_, _]) (by omega) (by omega) (by simp; omega) ?_; intro g' cap w2 own2 hb2 hk2 hg2 hz2)
        have O2 := Lib.hid own2; have HB2 := Lib.hid hb2
        clear own2 hb2 hk2 hg2 hz2
        go_wp2_with fail
        go_roundw
        case rel => exact ⟨k + 1, some ⟨g', 0, none⟩, cap, by omega, rfl, by go_num, by rw [HT.out]; exact O2.out, ((HB.out.alloc HB.out.size _).alloc (by simp; omega) _).trans HB2.out⟩
        case measure => simp [intOf]; omega
      · go_wp2_with (at_builtin; refine wp_app (by rfl) _ _ 51 128 (.agg #[.int .i64 0, .int .i64 0]) 2 16 (by rfl) Try.underlying51 info_Expr2 rfl (by omega) w.heap.size C k cc (((xs.take k).map exprOf).flatMap enc2) (by rfl) (by exact (HO.out.alloc _).alloc _) ⟨wr.heap.size + 1, 0, none⟩ 1 1 [i64 2, i64 0] (by rfl) (by omega) (by simp) (by exact new_cells2 _ _ _ _) (by exact one_ints [_, _]) (by omega) (by omega) (by simp; omega) ?_; intro g' cap w2 own2 hb2 hk2 hg2 hz2)
        have O2 := Lib.hid own2; have HB2 := Lib.hid hb2
        clear own2 hb2 hk2 hg2 hz2
        go_wp2_with fail
        go_roundw
        case rel => exact ⟨k + 1, some ⟨g', 0, none⟩, cap, by omega, rfl, by go_num, by rw [HT.out]; exact O2.out, ((HB.out.alloc HB.out.size _).alloc (by simp; omega) _).trans HB2.out⟩
        case measure => simp [intOf]; omega
    · have HF := Lib.hid (show xs.take k = xs from List.take_of_length_le (by rw [HL.out]; omega))
      have HK := Lib.hid (show k = n by omega)
      go_wp2_with fail
      go_ret
      refine ⟨_, _, by rw [← HK.out]; rfl, ?_, HB.out⟩
      have := HO.out.wrK
      rw [HF.out, HK.out] at this
      exact this
set_option maxHeartbeats 2000000 in
set_option maxRecDepth 100000 in
theorem treeExpr_c (p : Option Addr) (t : Tr) (lo : Nat) (w : World) (h : TreeP w lo w.heap.size p t) (hs : szT t ≤ 1000000) :
    Calls Try.prog 98 #[.pointer p] w fun e w' => ∃ A' c', e = .returned (.slice A' (szT t) c') ∧ Wr w' w.heap.size w'.heap.size A' (szT t * 2) (((flat t).map exprOf).flatMap enc2) ∧ Below w.heap.size w w' := by
  have H := Lib.hid h; clear h
  go_enter Try.func98, Try.ntmps98
  go_wp2_with fail
  have hbl : Below w.heap.size w (w.alloc (.cells #[] 128)) := below_size.alloc (Nat.le_refl _) _
  refine (list_c p t lo _ (TreeP.wider (Nat.le_refl _) hbl.size t p (H.out.keep hbl)) hs).mono ?_
  rintro e w1 ⟨A, c, rfl, hw, hb⟩
  have hA : ∀ ad, 0 < szT t → A = some ad → w.heap.size < ad.block ∧ ad.block < w1.heap.size := fun ad h0 e => by
    obtain ⟨ad', e', g1, g2, _⟩ := hw.2 h0
    rw [e] at e'; injection e' with e'; subst e'
    simp at g1; omega
  have HW := Lib.hid hw.rdB; have HB1 := Lib.hid (up1 hb)
  have O1 := Lib.hid ((Own.litK (k := 2) (w := w) (e := 128) (Nat.le_refl w.heap.size)).keep hb)
  have HL := Lib.hid (show (flat t).length = szT t from rfl)
  obtain ⟨n, hn⟩ : ∃ n, n = szT t := ⟨_, rfl⟩
  obtain ⟨xs, hxs⟩ : ∃ xs, xs = flat t := ⟨_, rfl⟩
  rw [← hn] at HW HL hs ⊢
  rw [← hxs] at HW HL
  rw [← hn] at hA
  have HA := Lib.hid hA; clear hA
  have HN := Lib.hid hn; have HX := Lib.hid hxs
  have hs1 := HB1.out.size
  clear hw hb hbl H hn hxs
  go_wp2_with fail
  go_loopw [3, 11] (fun v iv wr => ∃ (k : Nat) (C : Option Addr) (cc : Nat), k ≤ n ∧ v = .slice C k cc ∧ iv = .int .i64 k ∧ Own wr w.heap.size 128 2 C k cc (((xs.take k).map exprOf).flatMap enc2) ∧ RdB wr A n xs ∧ (∀ ad', C = some ad' → ad'.block = w.heap.size ∨ w1.heap.size ≤ ad'.block) ∧ w1.heap.size ≤ wr.heap.size ∧ Below w.heap.size w wr) (fun _ iv _ => n - (intOf iv).toNat)
  case atStart => exact ⟨0, _, 0, by omega, rfl, rfl, O1.out, HW.out, (fun ad' e => by injection e with e; subst e; exact .inl rfl), Nat.le_refl _, HB1.out⟩
  case round =>
    clear HW HB1 O1
    obtain ⟨k, C, cc, hk, rfl, rfl, own, hrd, hC, hsz, hb⟩ := hrel
    have HC := Lib.hid hC; clear hC
    have HO := Lib.hid own; have HB := Lib.hid hb; have H := Lib.hid hrd
    have hBs := hb.size
    clear own hb hrd
    by_cases hlt : k < n
    · obtain ⟨ad, x, rfl, hab, hx, hc0⟩ := H.out.at_ hlt
      have HT := Lib.hid (show ((xs.take (k + 1)).map exprOf).flatMap enc2 = ((xs.take k).map exprOf).flatMap enc2 ++ [i64 (if x then 2 else 0), i64 0] by rw [take_at hx, enc_snoc])
      clear hx
      cases x
      · go_wp2_with (at_builtin; refine wp_app (by rfl) _ _ 51 128 (.agg #[.int .i64 0, .int .i64 0]) 2 16 (by rfl) Try.underlying51 info_Expr2 rfl (by omega) w.heap.size C k cc (((xs.take k).map exprOf).flatMap enc2) (by rfl) (by exact HO.out.alloc _) ⟨wr.heap.size, 0, none⟩ 1 1 [i64 0, i64 0] (by rfl) (by omega) (by simp) (by exact new_cellsK _ _) (by exact one_ints [_, _]) (by omega) (by omega) (by simp; omega) ?_; intro g' cap w2 own2 hb2 hk2 hg2 hz2)
        have O2 := Lib.hid own2; have HB2 := Lib.hid ((HB.out.alloc HB.out.size _).trans hb2)
        have R2 := Lib.hid (show RdB w2 (some ad) n xs from Rd.move (H.out.alloc (.cells #[i64 0, i64 0] 128)) (fun ad' h0 e => hk2 _ (by have := (HA.out ad' h0 e); simp; omega) (fun ad2 e2 => by have h3 := HA.out ad' h0 e; have h4 := HC.out ad2 e2; omega)) hz2)
        have C2 := Lib.hid (show ∀ ad', some (⟨g', 0, none⟩ : Addr) = some ad' → ad'.block = w.heap.size ∨ w1.heap.size ≤ ad'.block from fun ad' e => by
          injection e with e; subst e
          rcases hg2 with h | h
          · exact HC.out _ h
          · right; simp at h; simp; omega)
        simp at hz2
        have hz3 : w1.heap.size ≤ w2.heap.size := by omega
        clear own2 hb2 hk2 hg2 hz2
        go_wp2_with fail
        go_roundw
        case rel => exact ⟨k + 1, some ⟨g', 0, none⟩, cap, by omega, rfl, by go_num, by rw [HT.out]; exact O2.out, R2.out, C2.out, hz3, HB2.out⟩
        case measure => simp [intOf]; omega
      · go_wp2_with (at_builtin; refine wp_app (by rfl) _ _ 51 128 (.agg #[.int .i64 0, .int .i64 0]) 2 16 (by rfl) Try.underlying51 info_Expr2 rfl (by omega) w.heap.size C k cc (((xs.take k).map exprOf).flatMap enc2) (by rfl) (by exact HO.out.alloc _) ⟨wr.heap.size, 0, none⟩ 1 1 [i64 2, i64 0] (by rfl) (by omega) (by simp) (by exact new_cellsK _ _) (by exact one_ints [_, _]) (by omega) (by omega) (by simp; omega) ?_; intro g' cap w2 own2 hb2 hk2 hg2 hz2)
        have O2 := Lib.hid own2; have HB2 := Lib.hid ((HB.out.alloc HB.out.size _).trans hb2)
        have R2 := Lib.hid (show RdB w2 (some ad) n xs from Rd.move (H.out.alloc (.cells #[i64 2, i64 0] 128)) (fun ad' h0 e => hk2 _ (by have := (HA.out ad' h0 e); simp; omega) (fun ad2 e2 => by have h3 := HA.out ad' h0 e; have h4 := HC.out ad2 e2; omega)) hz2)
        have C2 := Lib.hid (show ∀ ad', some (⟨g', 0, none⟩ : Addr) = some ad' → ad'.block = w.heap.size ∨ w1.heap.size ≤ ad'.block from fun ad' e => by
          injection e with e; subst e
          rcases hg2 with h | h
          · exact HC.out _ h
          · right; simp at h; simp; omega)
        simp at hz2
        have hz3 : w1.heap.size ≤ w2.heap.size := by omega
        clear own2 hb2 hk2 hg2 hz2
        go_wp2_with fail
        go_roundw
        case rel => exact ⟨k + 1, some ⟨g', 0, none⟩, cap, by omega, rfl, by go_num, by rw [HT.out]; exact O2.out, R2.out, C2.out, hz3, HB2.out⟩
        case measure => simp [intOf]; omega
    · have HF := Lib.hid (show xs.take k = xs from List.take_of_length_le (by rw [HL.out]; omega))
      have HK := Lib.hid (show k = n by omega)
      go_wp2_with fail
      go_ret
      refine ⟨_, _, by rw [← HN.out, ← HK.out]; rfl, ?_, HB.out⟩
      have := HO.out.wrK
      rw [HF.out, HK.out, HN.out, HX.out] at this
      exact this
theorem sTreeExpr_c (A : Option Addr) (n c : Nat) (xs : List Bool) (w : World) (h : RdB w A n xs) (hn : n ≤ 1000000000) :
    Calls Try.prog 39 #[.slice A n c] w fun e w' => ∃ A' n' c', e = .returned (.tuple #[.slice A' n' c', .int .i64 (exR xs).2]) ∧ Wr w' w.heap.size w'.heap.size A' (n' * 2) ((exR xs).1.flatMap enc2) ∧ n' ≤ 1000000 ∧ Below w.heap.size w w' := by
  have HL := Lib.hid h.len
  cases hx : treeB xs
  · have HR := Lib.hid (show exR xs = ([], 1) by simp [exR, hx])
    go_enter Try.func39, Try.ntmps39
    go_wp2_with fail
    refine (l21Is_c _ _ _ xs _ _ h hn hx).mono ?_
    rintro e w' ⟨rfl, rfl⟩
    go_wp2_with fail
    go_ret2
    rw [HR.out]
    exact ⟨_, _, _, rfl, Wr.nil, by omega, below_size⟩
  by_cases h40 : n ≤ 40
  · have HR := Lib.hid (show exR xs = (xs.map exprOf, 0) by rw [exR, hx, if_pos rfl, if_pos (by rw [HL.out]; exact h40)])
    obtain ⟨t, ht, hsz⟩ := treeB_of hx
    have HN := Lib.hid (show n = szT t by rw [← HL.out, ht]; rfl)
    go_enter Try.func39, Try.ntmps39
    go_wp2_with fail
    refine (l21Is_c _ _ _ xs _ _ h hn hx).mono ?_
    rintro e w' ⟨rfl, rfl⟩
    clear hx
    go_wp2_with fail
    refine (l23Expr_c _ _ _ xs _ h (by omega)).mono ?_
    rintro e w1 ⟨A', c', rfl, hw, hb⟩
    have HW := Lib.hid hw; have HB := Lib.hid hb
    clear hw hb
    go_wp2_with fail
    go_ret2
    rw [HR.out]
    exact ⟨_, _, _, rfl, HW.out, by omega, HB.out⟩
  · have HR := Lib.hid (show exR xs = ([], 5) by rw [exR, hx, if_pos rfl, if_neg (by rw [HL.out]; exact h40)])
    go_enter Try.func39, Try.ntmps39
    go_wp2_with fail
    refine (l21Is_c _ _ _ xs _ _ h hn hx).mono ?_
    rintro e w' ⟨rfl, rfl⟩
    clear hx
    go_wp2_with fail
    go_ret2
    rw [HR.out]
    exact ⟨_, _, _, rfl, Wr.nil, by omega, below_size⟩
theorem iTreeExpr_c (A : Option Addr) (n c : Nat) (xs : List Bool) (w : World) (h : RdB w A n xs) (hn : n ≤ 1000000000) :
    Calls Try.prog 40 #[.slice A n c] w fun e w' => ∃ A' n' c', e = .returned (.tuple #[.slice A' n' c', .int .i64 (exR xs).2]) ∧ Wr w' w.heap.size w'.heap.size A' (n' * 2) ((exR xs).1.flatMap enc2) ∧ n' ≤ 1000000 ∧ Below w.heap.size w w' := by
  have HL := Lib.hid h.len
  cases hx : treeB xs
  · have HR := Lib.hid (show exR xs = ([], 1) by simp [exR, hx])
    go_enter Try.func40, Try.ntmps40
    go_wp2_with fail
    refine (isTree_c _ _ _ xs _ _ h hn hx).mono ?_
    rintro e w' ⟨rfl, rfl⟩
    go_wp2_with fail
    go_ret2
    rw [HR.out]
    exact ⟨_, _, _, rfl, Wr.nil, by omega, below_size⟩
  by_cases h40 : n ≤ 40
  · have HR := Lib.hid (show exR xs = (xs.map exprOf, 0) by rw [exR, hx, if_pos rfl, if_pos (by rw [HL.out]; exact h40)])
    obtain ⟨t, ht, hsz⟩ := treeB_of hx
    have HN := Lib.hid (show n = szT t by rw [← HL.out, ht]; rfl)
    go_enter Try.func40, Try.ntmps40
    go_wp2_with fail
    refine (isTree_c _ _ _ xs _ _ h hn hx).mono ?_
    rintro e w' ⟨rfl, rfl⟩
    clear hx
    go_wp2_with fail
    refine (treeOf_c _ _ _ t _ (by rw [← ht]; exact h) (by omega)).mono ?_
    rintro e w1 ⟨p, rfl, hT, hb⟩
    have T1 := Lib.hid hT; have B1 := Lib.hid hb
    have HT := Lib.hid ht
    clear hT hb ht
    go_wp2_with fail
    refine (treeExpr_c p t _ _ T1.out (by omega)).mono ?_
    rintro e w2 ⟨A', c', rfl, hw, hb⟩
    have HW := Lib.hid (hw.wider B1.out.size (Nat.le_refl _)); have HB := Lib.hid (below_chain B1.out B1.out.size hb)
    clear hw hb
    go_wp2_with fail
    go_ret2
    rw [HR.out, HT.out]
    exact ⟨_, _, _, rfl, HW.out, by omega, HB.out⟩
  · have HR := Lib.hid (show exR xs = ([], 5) by rw [exR, hx, if_pos rfl, if_neg (by rw [HL.out]; exact h40)])
    go_enter Try.func40, Try.ntmps40
    go_wp2_with fail
    refine (isTree_c _ _ _ xs _ _ h hn hx).mono ?_
    rintro e w' ⟨rfl, rfl⟩
    clear hx
    go_wp2_with fail
    go_ret2
    rw [HR.out]
    exact ⟨_, _, _, rfl, Wr.nil, by omega, below_size⟩
end Go.Proofs.Ytplcpldbenjjgaa
