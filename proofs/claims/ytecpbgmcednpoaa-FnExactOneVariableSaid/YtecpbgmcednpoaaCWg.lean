/-
  Contracts: orders of six numbers.
-/
import Derived.Test.YtecpbgmcednpoaaPWr
import Derived.Test.YtecpbgmcednpoaaApp
namespace Go.Proofs.Ytecpbgmcednpoaa
open Go.RowKit

set_option maxHeartbeats 4000000 in
set_option maxRecDepth 100000 in
theorem l00Has_c (A : Option Addr) (n c : Nat) (xs : List Int) (v : Int) (w : World) (h : RdI w A n xs) (hn : n ≤ 1000000000) (q : Bool) (hq : xs.contains v = q) :
    Calls Try.prog 52 #[.slice A n c, .int .i64 v] w fun e w' => e = .returned (.bool q) ∧ w = w' := by
  have HL := Lib.hid h.len
  have HQ := Lib.hid hq
  have H := Lib.hid h; clear h hq
  go_enter Try.func52, Try.ntmps52
  go_wp2
  go_loop [5] (fun i => ∃ k : Nat, k ≤ n ∧ i = .int .i64 k ∧ Hid ((xs.drop k).contains v = q)) (fun i => n - (intOf i).toNat)
  case atStart => exact ⟨0, by omega, rfl, HQ.out⟩
  case round =>
    obtain ⟨k, hk, rfl, hr⟩ := hrel
    by_cases hlt : k < n
    · obtain ⟨ad, x, rfl, hb, hx, hc⟩ := H.out.at_ hlt
      have HR := Lib.hid (show (v == x || (xs.drop (k + 1)).contains v) = q by rw [← hr.out, drop_at hx, List.contains_cons])
      clear hx hr
      by_cases he : x = v
      · subst he
        have HG := Lib.hid (show true = q by rw [← HR.out]; simp)
        go_wp2_with fail
        go_ret
        exact ⟨by rw [← HG.out]; rfl, rfl⟩
      · have gk : (x == v) = false := by simpa using he
        have HG := Lib.hid (show (xs.drop (k + 1)).contains v = q by rw [← HR.out]; simp [Ne.symm he])
        clear HR
        go_wp2_with fail
        go_round
        case rel => exact ⟨k + 1, by omega, by go_num, HG.out⟩
        case measure => simp [intOf]; omega
    · have HG := Lib.hid (show false = q by rw [← hr.out, List.drop_eq_nil_of_le (by rw [HL.out]; omega)]; rfl)
      go_wp2_with fail
      go_ret
      exact ⟨by rw [← HG.out]; rfl, rfl⟩
set_option maxHeartbeats 4000000 in
set_option maxRecDepth 100000 in
theorem l06Order_c (A : Option Addr) (n c : Nat) (os : List Int) (w : World) (h : RdI w A n os) (hn : n ≤ 1000000000) (q : Bool) (hq : orderB os = q) :
    Calls Try.prog 32 #[.slice A n c, .int .i64 6] w fun e w' => e = .returned (.bool q) ∧ w = w' := by
  have HL := Lib.hid h.len
  by_cases h6 : n = 6
  rotate_left
  · have gk : ((n : Int) != 6) = true := by rw [bne_iff_ne]; omega
    have HG := Lib.hid (show false = q by rw [← hq, orderB, HL.out]; simp [h6])
    clear hq
    go_enter Try.func32, Try.ntmps32
    go_wp2_with fail
    go_ret
    exact ⟨by rw [← HG.out]; rfl, rfl⟩
  subst h6
  have gk : (((6 : Nat) : Int) != 6) = false := by simp
  have HQ := Lib.hid (show (List.range 6).all (fun k => os.contains (k : Int)) = q by rw [← hq, orderB, HL.out]; simp)
  have H := Lib.hid h; clear h hq
  go_enter Try.func32, Try.ntmps32
  go_wp2_with fail
  clear gk
  go_loop [5] (fun i => ∃ k : Nat, k ≤ 6 ∧ i = .int .i64 k ∧ Hid (((List.range 6).drop k).all (fun k => os.contains (k : Int)) = q)) (fun i => 6 - (intOf i).toNat)
  case atStart => exact ⟨0, by omega, rfl, HQ.out⟩
  case round =>
    obtain ⟨k, hk, rfl, hr⟩ := hrel
    by_cases hlt : k < 6
    · obtain ⟨z, hz⟩ : ∃ z, os.contains (k : Int) = z := ⟨_, rfl⟩
      obtain ⟨T, hT⟩ : ∃ T, ((List.range 6).drop (k + 1)).all (fun k => os.contains (k : Int)) = T := ⟨_, rfl⟩
      have HR := Lib.hid (show (z && T) = q by rw [← hr.out, drop_at (List.getElem?_range hlt), List.all_cons, hz, hT])
      have HZ := Lib.hid hz; have HT := Lib.hid hT
      clear hz hr hT
      cases z
      · have HG := Lib.hid (show false = q by rw [← HR.out, Bool.false_and])
        go_wp2_with (go_at_call 52; refine (l00Has_c A _ c os _ _ H.out hn _ HZ.out).mono ?_; rintro e w' ⟨rfl, rfl⟩)
        go_ret
        exact ⟨by rw [← HG.out]; rfl, rfl⟩
      · have HG := Lib.hid (show ((List.range 6).drop (k + 1)).all (fun k => os.contains (k : Int)) = q by rw [HT.out, ← HR.out, Bool.true_and])
        go_wp2_with (go_at_call 52; refine (l00Has_c A _ c os _ _ H.out hn _ HZ.out).mono ?_; rintro e w' ⟨rfl, rfl⟩)
        go_round
        case rel => exact ⟨k + 1, by omega, by go_num, HG.out⟩
        case measure => simp [intOf]; omega
    · have HG := Lib.hid (show true = q by rw [← hr.out, List.drop_eq_nil_of_le (by rw [List.length_range]; omega), List.all_nil])
      go_wp2_with fail
      go_ret
      exact ⟨by rw [← HG.out]; rfl, rfl⟩
theorem cloneW_c (A : Option Addr) (n c : Nat) (ws : List Int) (w : World) (h : RdI w A n ws) (h0 : 0 < n) (hn : n ≤ 1000000) :
    Calls Try.prog 80 #[.slice A n c] w fun e w' => ∃ g cap, e = .returned (.slice (some ⟨g, 0, none⟩) n cap) ∧ Wr w' w.heap.size w'.heap.size (some ⟨g, 0, none⟩) n (ws.map i64) ∧ Below w.heap.size w w' := by
  obtain ⟨hl, hc⟩ := h
  obtain ⟨ad, rfl, hab, hcs⟩ := hc h0
  have HL := Lib.hid hl
  have HC := Lib.hid (show ∀ j u, (ws.map i64)[j]? = some u → (w.alloc (.cells #[] 2)).cell? (ad.add j) = some u from fun j u hj => keepa _ (hcs j u hj))
  clear hl hc hcs
  have he : ∀ w, (binOp BinOp.eql 24 (Value.slice (some ad) n c) (Value.slice none 0 0)).run Try.prog w = .ok (.bool false) w := fun w => by kernel_rfl
  go_enter Try.func80, Try.ntmps80
  go_wp2_with (at_builtin; refine wp_app (by rfl) _ _ 24 2 (.int .i64 0) 1 8 (by rfl) Try.underlying24 info_i64 rfl (by omega) w.heap.size (some ⟨w.heap.size, 0, none⟩) 0 0 [] (by rfl) (by exact Own.lit (Nat.le_refl _)) ad n c (ws.map i64) (by rfl) h0 (by rw [HL.out, Nat.mul_one]) (by exact HC.out) (by intro u hu; obtain ⟨y, _, rfl⟩ := List.mem_map.1 hu; rfl) (by omega) (by omega) (by simp) ?_; intro g' cap w2 own2 hb2 hk2 hg2 hz2)
  rw [Nat.zero_add, List.nil_append] at own2
  have O2 := Lib.hid own2; have B2 := Lib.hid ((below_size.alloc (Nat.le_refl _) (.cells #[] 2)).trans hb2)
  clear own2 hb2 hk2 hg2 hz2
  go_wp2_with fail
  go_ret
  exact ⟨g', cap, by simp, O2.out.wr, B2.out⟩
theorem sortList_c (A : Option Addr) (n c : Nat) (xs : List Int) (w : World) (h : RdI w A n xs) (h0 : 0 < n) (hn : n ≤ 1000000) :
    Calls Try.prog 54 #[.slice A n c] w fun e w' => ∃ g cap, e = .returned (.slice (some ⟨g, 0, none⟩) n cap) ∧ Wr w' w.heap.size w'.heap.size (some ⟨g, 0, none⟩) n ((sortL xs).map i64) ∧ Below w.heap.size w w' := by
  have H := Lib.hid h; clear h
  go_enter Try.func54, Try.ntmps54
  go_wp2_with fail
  refine (cloneW_c A n c xs w H.out h0 hn).mono ?_
  rintro e w1 ⟨g, cp, rfl, hw1, hb1⟩
  have W1 := Lib.hid hw1; have B1 := Lib.hid hb1
  clear hw1 hb1
  go_wp2_with fail
  refine (sortI_c g n cp _ _ xs w1 W1.out hn).mono ?_
  rintro e w2 ⟨rfl, hw2, hb2⟩
  have W2 := Lib.hid (hw2.wider (Nat.le_refl _) hb2.size); have B2 := Lib.hid (B1.out.trans hb2)
  clear hw2 hb2
  go_wp2_with fail
  go_ret
  exact ⟨g, cp, rfl, W2.out, B2.out⟩
set_option maxHeartbeats 4000000 in
set_option maxRecDepth 100000 in
theorem isOrder_c (A : Option Addr) (n c : Nat) (os : List Int) (w : World) (h : RdI w A n os) (hn : n ≤ 1000000000) (q : Bool) (hq : orderB os = q) :
    Calls Try.prog 34 #[.slice A n c, .int .i64 6] w fun e w' => e = .returned (.bool q) ∧ Below w.heap.size w w' := by
  rw [orderB_eq] at hq
  have HL := Lib.hid h.len
  by_cases h6 : n = 6
  rotate_left
  · have gk : ((n : Int) != 6) = true := by rw [bne_iff_ne]; omega
    have HG := Lib.hid (show false = q by rw [← hq, HL.out]; simp [h6])
    clear hq
    go_enter Try.func34, Try.ntmps34
    go_wp2_with (go_at_call 53; refine (sizeI_c _ _ _ _ (by omega)).mono ?_; rintro e w' ⟨rfl, rfl⟩)
    go_ret
    exact ⟨by rw [← HG.out]; rfl, below_size⟩
  subst h6
  have gk : (((6 : Nat) : Int) != 6) = false := by simp
  obtain ⟨S, hS⟩ : ∃ S, sortL os = S := ⟨_, rfl⟩
  have HQ := Lib.hid (show decide (S = sixL) = q by rw [← hq, HL.out, hS]; simp)
  have HSL := Lib.hid (show S.length = 6 by rw [← hS, sortL_len, HL.out])
  have HS := Lib.hid hS
  have H := Lib.hid h; clear h hq hS
  go_enter Try.func34, Try.ntmps34
  go_wp2_with (go_at_call 53; refine (sizeI_c _ _ _ _ (by omega)).mono ?_; rintro e w' ⟨rfl, rfl⟩)
  clear gk
  refine (sortList_c A _ c os w H.out (by omega) (by omega)).mono ?_
  rw [HS.out]
  rintro e w1 ⟨g, cp, rfl, hw1, hb1⟩
  have W1 := Lib.hid hw1.rdI; have B1 := Lib.hid hb1
  clear hw1 hb1
  go_wp2_with fail
  go_loop [14] (fun i => ∃ k : Nat, k ≤ 6 ∧ i = .int .i64 k ∧ Hid (decide (S.drop k = sixL.drop k) = q)) (fun i => 6 - (intOf i).toNat)
  case atStart => exact ⟨0, by omega, rfl, HQ.out⟩
  case round =>
    obtain ⟨k, hk, rfl, hr⟩ := hrel
    by_cases hlt : k < 6
    · obtain ⟨ad, x, ea, hb, hx, hc⟩ := W1.out.at_ hlt
      injection ea with ea
      subst ea
      rw [head_add] at hc
      have HR := Lib.hid (show decide (x :: S.drop (k + 1) = (k : Int) :: sixL.drop (k + 1)) = q by rw [← hr.out, drop_at hx, drop_at (show sixL[k]? = some (k : Int) from sixL_at hlt)])
      clear hx hr
      by_cases he : x = (k : Int)
      · subst he
        have gk2 : ((k : Int) != (k : Int)) = false := by simp
        have HG := Lib.hid (show decide (S.drop (k + 1) = sixL.drop (k + 1)) = q by rw [← HR.out]; simp)
        clear HR
        go_wp2_with fail
        go_round
        case rel => exact ⟨k + 1, by omega, by go_num, HG.out⟩
        case measure => simp [intOf]; omega
      · have gk2 : (x != (k : Int)) = true := by simpa using he
        have HG := Lib.hid (show false = q by rw [← HR.out]; simp [he])
        clear HR
        go_wp2_with fail
        go_ret
        exact ⟨by rw [← HG.out]; rfl, B1.out⟩
    · have HG := Lib.hid (show true = q by rw [← hr.out, List.drop_eq_nil_of_le (by rw [HSL.out]; omega), List.drop_eq_nil_of_le (by rw [sixL_len]; omega)]; simp)
      go_wp2_with fail
      go_ret
      exact ⟨by rw [← HG.out]; rfl, B1.out⟩
end Go.Proofs.Ytecpbgmcednpoaa
