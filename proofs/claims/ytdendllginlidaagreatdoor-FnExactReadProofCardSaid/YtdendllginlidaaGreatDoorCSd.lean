/-
  Reading, fourth part: words and the reference's lists of numbers and words.
-/
import Derived.Test.YtdendllginlidaaGreatDoorCSc
import Derived.Test.YtdendllginlidaaGreatDoorPRc
import Derived.Test.YtdendllginlidaaGreatDoorOwnS
import Derived.Test.YtdendllginlidaaGreatDoorSegII
namespace Go.Proofs.YtdendllginlidaaGreatDoor
open Go.RowKit

theorem wdR1_digs {s : List UInt8} (h : s ≠ [45]) : wdR1 s = match dgR s with
  | none => none
  | some w => if 0 < w.length ∧ w.length ≤ 400 then some w else none := by rw [wdR1, if_neg h]; rfl
set_option maxHeartbeats 2000000 in
set_option maxRecDepth 100000 in
theorem ReadWord_c (s : List UInt8) (R : List Int × Bool) (hR : numsV (wdR1 s) = R) (w : World) (hs : s.length ≤ 1048576) :
    Calls Tryz.prog 42 #[.string (bs s)] w (NumsOut R w) := by
  have gs := bs_toListS s
  have HR := Lib.hid hR
  by_cases h0 : s = [45]
  · have g0 : (s == ([45] : List UInt8)) = true := by rw [beq_iff_eq]; exact h0
    have HG := Lib.hid (show (([], true) : List Int × Bool) = R by rw [← HR.out, h0]; rfl)
    clear hR h0
    go_enter Tryz.func42, Tryz.ntmps42
    go_wp2_with fail
    go_ret2
    rw [← HG.out]
    exact ⟨_, 0, 0, rfl, Own.lit (Nat.le_refl _), below_size.alloc (Nat.le_refl _) _⟩
  have g0 : (s == ([45] : List UInt8)) = false := by rw [beq_eq_false_iff_ne]; exact h0
  have HW := Lib.hid (wdR1_digs h0)
  cases hd : dgR s with
  | none =>
    have HC := Lib.hid (readDigits_c s ([], false) (by rw [hd]; rfl) w hs)
    have HG := Lib.hid (show (([], false) : List Int × Bool) = R by rw [← HR.out, HW.out, hd]; rfl)
    clear hR h0 hd hs
    go_enter Tryz.func42, Tryz.ntmps42
    go_wp2_with (go_at_call 27; refine HC.out.mono ?_; rintro e w1 ⟨A, n, c, rfl, hw1, hb1⟩; have B1 := Lib.hid hb1; clear hw1 hb1)
    go_ret2
    rw [← HG.out]
    exact NumsOut.bad B1.out
  | some xs =>
    have HC := Lib.hid (readDigits_c s (xs, true) (by rw [hd]; rfl) w hs)
    have hxl : xs.length ≤ 1048576 := by rw [(dgR_some hd).2.2, cellsP, List.length_map]; exact hs
    have HW2 := Lib.hid (show wdR1 s = if 0 < xs.length ∧ xs.length ≤ 400 then some xs else none by rw [HW.out, hd])
    obtain ⟨m, hm⟩ : ∃ m, xs.length = m := ⟨_, rfl⟩
    rw [hm] at hxl HW2
    have HM := Lib.hid hm
    clear hR h0 hd hs hm HW
    by_cases g1 : m = 0
    · have HG := Lib.hid (show (([], false) : List Int × Bool) = R by rw [← HR.out, HW2.out, if_neg (by omega)]; rfl)
      subst g1
      clear hxl
      go_enter Tryz.func42, Tryz.ntmps42
      go_wp2_with (go_at_call 27; refine HC.out.mono ?_; rintro e w1 ⟨A, n, c, rfl, hw1, hb1⟩; have B1 := Lib.hid hb1; obtain rfl : n = 0 := (by have := hw1.1; rw [List.length_map, HM.out] at this; omega); clear hw1 hb1)
      go_ret2
      rw [← HG.out]
      exact NumsOut.bad B1.out
    have g2 : ((m : Int) == 0) = false := by rw [beq_eq_false_iff_ne]; omega
    by_cases g3 : m ≤ 400
    · have HG := Lib.hid (show ((xs, true) : List Int × Bool) = R by rw [← HR.out, HW2.out, if_pos ⟨by omega, g3⟩]; rfl)
      clear g1
      go_enter Tryz.func42, Tryz.ntmps42
      go_wp2_with (go_at_call 27; refine HC.out.mono ?_; rintro e w1 ⟨A, n, c, rfl, hw1, hb1⟩; have B1 := Lib.hid hb1; have W1 := Lib.hid hw1; obtain rfl : n = m := (by have := hw1.1; rw [List.length_map, HM.out] at this; omega); clear hw1 hb1)
      go_ret2
      rw [← HG.out]
      exact ⟨A, n, c, rfl, W1.out, B1.out⟩
    · have HG := Lib.hid (show (([], false) : List Int × Bool) = R by rw [← HR.out, HW2.out, if_neg (fun h => g3 h.2)]; rfl)
      clear g1
      go_enter Tryz.func42, Tryz.ntmps42
      go_wp2_with (go_at_call 27; refine HC.out.mono ?_; rintro e w1 ⟨A, n, c, rfl, hw1, hb1⟩; have B1 := Lib.hid hb1; obtain rfl : n = m := (by have := hw1.1; rw [List.length_map, HM.out] at this; omega); clear hw1 hb1)
      go_ret2
      rw [← HG.out]
      exact NumsOut.bad B1.out
/-- what l03Read gives -/
def WdOut (s : List UInt8) (w : World) (e : Ending) (w' : World) : Prop := ∃ A n c xs q, e = .returned (.tuple #[.slice A n c, .bool q]) ∧ Own w' w.heap.size 2 1 A n c (xs.map i64) ∧ wdR1 s = (if q = true then some xs else none) ∧ Below w.heap.size w w'
set_option maxHeartbeats 2000000 in
set_option maxRecDepth 100000 in
theorem l03Read_c (s : List UInt8) (w : World) (hs : s.length ≤ 1048576) : Calls Tryz.prog 84 #[.string (bs s)] w (WdOut s w) := by
  have gs := bs_toListS s
  by_cases h0 : s = [45]
  · have g0 : (s == ([45] : List UInt8)) = true := by rw [beq_iff_eq]; exact h0
    have HG := Lib.hid (show wdR1 s = some [] by rw [h0]; rfl)
    clear h0
    go_enter Tryz.func84, Tryz.ntmps84
    go_wp2_with fail
    go_ret2
    exact ⟨_, 0, 0, [], true, rfl, Own.lit (Nat.le_refl _), by rw [HG.out, if_pos rfl], below_size.alloc (Nat.le_refl _) _⟩
  have g0 : (s == ([45] : List UInt8)) = false := by rw [beq_eq_false_iff_ne]; exact h0
  have HW := Lib.hid (wdR1_digs h0)
  obtain ⟨n, hn⟩ : ∃ n, s.length = n := ⟨_, rfl⟩
  have hz : (bs s).size = n := by rw [bs_size, hn]
  rw [hn] at hs
  have HN := Lib.hid hn
  clear hn h0
  go_enter Tryz.func84, Tryz.ntmps84
  go_wp2_with fail
  go_loopw [4, 5] (fun ov iv wr => ∃ (i : Nat) (C : Option Addr) (cc : Nat), iv = .int .i64 i ∧ ov = .slice C i cc ∧ i ≤ n ∧ Hid (dgR s = (dgR (s.drop i)).map (cellsP (s.take i) ++ ·)) ∧ Hid (Own wr w.heap.size 2 1 C i cc ((cellsP (s.take i)).map i64)) ∧ Below w.heap.size w wr) (fun _ iv _ => n - (intOf iv).toNat)
  case atStart => exact ⟨0, _, _, rfl, rfl, by omega, by simp [Hid, cellsP], Own.lit (Nat.le_refl _), below_size.alloc (Nat.le_refl _) _⟩
  case round =>
    obtain ⟨i, C, cc, rfl, rfl, hin, hd, hO, hb⟩ := hrel
    have HB := Lib.hid hb
    have hbz := hb.size
    by_cases hlt : i < n
    · obtain ⟨b, hbt⟩ : ∃ b, s[i]? = some b := ⟨_, List.getElem?_eq_getElem (by rw [HN.out]; exact hlt)⟩
      obtain ⟨x, hx⟩ : ∃ x : Int, (b.toNat : Int) = x := ⟨_, rfl⟩
      have hxb : 0 ≤ x ∧ x ≤ 255 := by have := UInt8.toNat_lt b; omega
      have hix := fun w => run_ixS hbt hx w
      by_cases hdg : 48 ≤ x ∧ x ≤ 57
      · have HQ := Lib.hid (show (decide (48 ≤ x) && decide (x ≤ 57)) = true by simp [hdg])
        have v1 : IntKind.u8.wrap (x - 48) = x - 48 := by have e := IntWalk.u8_in (x - 48) (by omega); exact e
        have v2 : IntKind.i64.wrap (x - 48) = x - 48 := IntWalk.i64_in _ (by omega)
        have HD := Lib.hid (dgR_yes hbt (by omega) hd.out)
        have HE := Lib.hid (show (cellsP (s.take (i + 1))).map i64 = (cellsP (s.take i)).map i64 ++ [i64 (x - 48)] by rw [cellsP_succ hbt, List.map_append, hx]; rfl)
        clear hbt hx hb hdg
        go_wp2_with (first | (go_at_call 50; refine (l01Digit_c x true _ HQ.out).mono ?_; rintro e w' ⟨rfl, rfl⟩) | (at_builtin; refine wp_app1 (by rfl) _ _ 26 2 (.int .i64 0) 8 (by rfl) Tryz.underlying26 info_i64 rfl w.heap.size C i cc ((cellsP (s.take i)).map i64) (by rfl) (by exact hO.out.alloc _) wr.heap.size (i64 (x - 48)) (by rfl) (by exact new_cell _ _ _ 0) rfl (by omega) (by omega) (by simp; omega) ?_; intro g' cap w3 own3 hb3 hk3 hg3 hz3; have O3 := Lib.hid own3; have E3 := Lib.hid ((HB.out.alloc hbz _).trans hb3); clear own3 hb3 hk3 hg3 hz3))
        go_roundw
        case rel => exact ⟨i + 1, some ⟨g', 0, none⟩, cap, by go_num, rfl, by omega, HD.out, by unfold Hid; rw [HE.out]; exact O3.out, E3.out⟩
        case measure => simp [intOf]; omega
      · have HQ := Lib.hid (show (decide (48 ≤ x) && decide (x ≤ 57)) = false by
          by_cases h9 : 48 ≤ x
          · have h8 : ¬ x ≤ 57 := fun h => hdg ⟨h9, h⟩
            rw [decide_eq_false h8, Bool.and_false]
          · rw [decide_eq_false h9, Bool.false_and])
        have HG := Lib.hid (show wdR1 s = none by rw [HW.out, dgR_no hbt (by omega) hd.out])
        clear hbt hx hb hdg
        go_wp2_with (go_at_call 50; refine (l01Digit_c x false _ HQ.out).mono ?_; rintro e w' ⟨rfl, rfl⟩)
        go_ret2
        exact ⟨none, 0, 0, [], false, rfl, Own.nil, by rw [HG.out, if_neg (by simp)], HB.out⟩
    · obtain rfl : i = n := by omega
      have HT := Lib.hid (show s.take i = s from List.take_of_length_le (by rw [HN.out]; exact Nat.le_refl _))
      have hcl : (cellsP s).length = i := by rw [cellsP, List.length_map, HN.out]
      have HG := Lib.hid (show wdR1 s = if 0 < i ∧ i ≤ 400 then some (cellsP s) else none by
        have h1 := hd.out
        rw [← HN.out] at h1
        rw [HW.out, dgR_end h1]; simp only; rw [hcl])
      have h9 := hO.out
      rw [HT.out] at h9
      have H9 := Lib.hid h9
      clear hb h9 hcl
      by_cases hi0 : 0 < i
      · by_cases hi4 : i ≤ 400
        · have g4 : decide ((i : Int) ≤ 400) = true := decide_eq_true (by omega)
          go_wp2_with fail
          go_ret2
          exact ⟨C, i, cc, cellsP s, true, rfl, H9.out, by rw [HG.out, if_pos ⟨hi0, hi4⟩, if_pos rfl], HB.out⟩
        · have g4 : decide ((i : Int) ≤ 400) = false := decide_eq_false (by omega)
          go_wp2_with fail
          go_ret2
          exact ⟨C, i, cc, cellsP s, false, rfl, H9.out, by rw [HG.out, if_neg (fun h => hi4 h.2), if_neg (by simp)], HB.out⟩
      · have g4 : decide ((0 : Int) < (i : Int)) = false := decide_eq_false (by omega)
        go_wp2_with fail
        go_ret2
        exact ⟨C, i, cc, cellsP s, false, rfl, H9.out, by rw [HG.out, if_neg (fun h => hi0 h.1), if_neg (by simp)], HB.out⟩
theorem allW_no {parts : List (List UInt8)} {k : Nat} {x : List UInt8} {acc : List (List Int)} (h : parts[k]? = some x) (hx : wdR1 x = none) (hd : allW parts = (allW (parts.drop k)).map (acc ++ ·)) : allW parts = none := by rw [hd, drop_at h, allW_none hx]; rfl
theorem allW_yes {parts : List (List UInt8)} {k : Nat} {x : List UInt8} {acc : List (List Int)} {n : List Int} (h : parts[k]? = some x) (hx : wdR1 x = some n) (hd : allW parts = (allW (parts.drop k)).map (acc ++ ·)) : allW parts = (allW (parts.drop (k + 1))).map ((acc ++ [n]) ++ ·) := by
  rw [hd, drop_at h, allW_some hx, Option.map_map]
  congr 1; funext u; simp
theorem allW_end {parts : List (List UInt8)} {k : Nat} {acc : List (List Int)} (hk : parts.length ≤ k) (hd : allW parts = (allW (parts.drop k)).map (acc ++ ·)) : allW parts = some acc := by rw [hd, List.drop_eq_nil_of_le hk, allW, Option.map_some, List.append_nil]
set_option maxHeartbeats 2000000 in
set_option maxRecDepth 100000 in
theorem l25Numbers_c (s : List UInt8) (R : List Int × Bool) (hR : numsV (nmR s) = R) (w : World) (hs : s.length ≤ 1048576) :
    Calls Tryz.prog 63 #[.string (bs s)] w (NumsOut R w) := by
  have gs := bs_toListS s
  have HR := Lib.hid hR
  have OW := Lib.hid (show Own (w.alloc (.cells #[] 2)) w.heap.size 2 1 (some ⟨w.heap.size, 0, none⟩) 0 0 [] from Own.lit (Nat.le_refl _))
  have BW := Lib.hid (show Below w.heap.size w (w.alloc (.cells #[] 2)) from below_size.alloc (Nat.le_refl _) _)
  by_cases h0 : s = [45]
  · have g0 : (s == ([45] : List UInt8)) = true := by rw [beq_iff_eq]; exact h0
    have HG := Lib.hid (show (([], true) : List Int × Bool) = R by rw [← HR.out, h0]; rfl)
    clear hR h0
    go_enter Tryz.func63, Tryz.ntmps63
    go_wp2_with fail
    go_ret2
    rw [← HG.out]
    exact ⟨_, 0, 0, rfl, OW.out, BW.out⟩
  have g0 : (s == ([45] : List UInt8)) = false := by rw [beq_eq_false_iff_ne]; exact h0
  obtain ⟨parts, hp⟩ : ∃ p, spl 44 s = p := ⟨_, rfl⟩
  obtain ⟨m, hm⟩ : ∃ m, parts.length = m := ⟨_, rfl⟩
  have HNM := Lib.hid (show nmR s = if 300 < m then none else allD parts by rw [nmR, if_neg h0, hp, hm])
  have hmb : m ≤ 1048577 := by rw [← hm, ← hp, spl_len]; have := List.count_le_length (a := 44) (l := s); omega
  have HPL := Lib.hid (show ∀ x ∈ parts, x.length ≤ 1048576 from fun x hx => by have := spl_piece 44 s x (by rw [hp]; exact hx); omega)
  have HSP := Lib.hid (show ∀ cv : Int, cv = 44 → Calls Tryz.prog 21 #[.string (bs s), .int .u8 cv] (w.alloc (.cells #[] 2)) (StrOut parts m (w.alloc (.cells #[] 2))) from fun cv hcv => by
    have := l01Split_c s 44 cv (by rw [hcv]; rfl) m (by rw [hp, hm]) (w.alloc (.cells #[] 2)) hs
    rw [hp] at this; exact this)
  have HM := Lib.hid hm
  clear hp hm hR hs h0
  by_cases h3 : 300 < m
  · have HG := Lib.hid (show (([], false) : List Int × Bool) = R by rw [← HR.out, HNM.out, if_pos h3]; rfl)
    go_enter Tryz.func63, Tryz.ntmps63
    go_wp2_with (go_at_call 21; refine (HSP.out _ (by omega)).mono ?_; rintro e w2 ⟨A, c, rfl, hA, hb2⟩; have B2 := Lib.hid (BW.out.trans (hb2.mono BW.out.size)); clear hA hb2)
    go_ret2
    rw [← HG.out]
    exact NumsOut.bad B2.out
  have HND := Lib.hid (show nmR s = allD parts by rw [HNM.out, if_neg h3])
  clear HNM
  go_enter Tryz.func63, Tryz.ntmps63
  go_wp2_with (go_at_call 21; refine (HSP.out _ (by omega)).mono ?_; rintro e w2 ⟨A, c, rfl, hA, hb2⟩; have PA := Lib.hid hA; have B2 := Lib.hid (BW.out.trans (hb2.mono BW.out.size)); have O2 := Lib.hid (OW.out.keep hb2); clear hA hb2)
  go_loopw [4, 6] (fun ov iv wr => ∃ (i : Nat) (acc : List Int) (C : Option Addr) (cc : Nat), iv = .int .i64 i ∧ ov = .slice C i cc ∧ i ≤ m ∧ Hid (allD parts = (allD (parts.drop i)).map (acc ++ ·)) ∧ Hid (Own wr w.heap.size 2 1 C i cc (acc.map i64)) ∧ KpB w.heap.size w2 wr C ∧ Below w.heap.size w wr) (fun _ iv _ => m - (intOf iv).toNat)
  case atStart => exact ⟨0, [], _, _, rfl, rfl, by omega, by simp [Hid], O2.out, KpB.start fun ad e => (by injection e with e; rw [← e]), B2.out⟩
  case round =>
    obtain ⟨i, acc, C, cc, rfl, rfl, hi, hd, hO, hkp, hb⟩ := hrel
    have HB := Lib.hid hb; have HK := Lib.hid hkp
    have hwz := hb.size
    by_cases hlt : i < m
    · obtain ⟨ad, x, rfl, hx, hc⟩ := RdOwn.at_ PA.out (g := w.heap.size) (by simp) hkp hlt
      obtain ⟨⟨v, q⟩, hv⟩ : ∃ r, numV (numD x) = r := ⟨_, rfl⟩
      have HC := Lib.hid (l01Number_c x v q wr (HPL.out x (List.mem_of_getElem? hx)) hv)
      cases q
      · have HG := Lib.hid (show (([], false) : List Int × Bool) = R by rw [← HR.out, HND.out, allD_no hx (numV_no hv) hd.out]; rfl)
        clear hx hv hd hb hkp
        go_wp2_with (go_at_call 22; refine HC.out.mono ?_; rintro e w' ⟨rfl, rfl⟩)
        go_ret2
        rw [← HG.out]
        exact NumsOut.bad HB.out
      · have HD := Lib.hid (allD_yes hx (numV_yes hv) hd.out)
        have HE := Lib.hid (show (acc ++ [v]).map i64 = acc.map i64 ++ [i64 v] by rw [List.map_append]; rfl)
        clear hx hv hd hb hkp
        go_wp2_with (first | (go_at_call 22; refine HC.out.mono ?_; rintro e w' ⟨rfl, rfl⟩) | (at_builtin; refine wp_app1 (by rfl) _ _ 26 2 (.int .i64 0) 8 (by rfl) Tryz.underlying26 info_i64 rfl w.heap.size C i cc (acc.map i64) (by rfl) (by exact hO.out.alloc _) wr.heap.size (i64 v) (by rfl) (by exact new_cell _ _ _ 0) rfl (by omega) (by omega) (by simp; omega) ?_; intro g' cap w3 own3 hb3 hk3 hg3 hz3; have O3 := Lib.hid own3; have K3 := Lib.hid (KpB.push (B' := some ⟨g', 0, none⟩) HK.out below_size hk3 hz3 (hg3.elim (fun e => .inl e.symm) (fun e => .inr fun ad h => by injection h with h; subst h; exact Nat.le_of_eq e.symm))); have E3 := Lib.hid ((HB.out.alloc hwz _).trans hb3); clear own3 hb3 hk3 hg3 hz3))
        go_roundw
        case rel => exact ⟨i + 1, acc ++ [v], some ⟨g', 0, none⟩, cap, by go_num, rfl, by omega, HD.out, by unfold Hid; rw [HE.out]; exact O3.out, K3.out, E3.out⟩
        case measure => simp [intOf]; omega
    · obtain rfl : i = m := by omega
      have HG := Lib.hid (show (acc, true) = R by rw [← HR.out, HND.out, allD_end (by rw [HM.out]; exact Nat.le_refl _) hd.out]; rfl)
      clear hb hkp
      go_wp2_with fail
      go_ret2
      rw [← HG.out]
      exact ⟨C, i, cc, rfl, hO.out, HB.out⟩
/-- words of the call's own, and a Bool -/
def wdsV : Option (List (List Int)) → List (List Int) × Bool
  | some xs => (xs, true)
  | none => ([], false)
def WdsOut (R : List (List Int) × Bool) (w : World) (e : Ending) (w' : World) : Prop := ∃ (A : Option Addr) (n c : Nat) (its : List It), e = .returned (.tuple #[.slice A n c, .bool R.2]) ∧ OwnS w' w.heap.size 26 1 A n c (its.map hdI) (its.map bodyI) ∧ its.map It.xs = R.1 ∧ Below w.heap.size w w'
theorem WdsOut.bad {w w' : World} (h : Below w.heap.size w w') : WdsOut ([], false) w (.returned (.tuple #[.slice none 0 0, .bool false])) w' := ⟨none, 0, 0, [], rfl, OwnS.nil Own.nil, rfl, h⟩
theorem info_sI : (Tryz.prog.info? 26).map (fun i => (i.zero, i.size, i.bytes)) = some (some (.slice none 0 0), 1, 24) := by kernel_rfl
set_option maxHeartbeats 2000000 in
set_option maxRecDepth 100000 in
theorem l25Words_c (s : List UInt8) (R : List (List Int) × Bool) (hR : wdsV (wdR s) = R) (w : World) (hs : s.length ≤ 1048576) :
    Calls Tryz.prog 64 #[.string (bs s)] w (WdsOut R w) := by
  have gs := bs_toListS s
  have HR := Lib.hid hR
  have OW := Lib.hid (show Own (w.alloc (.cells #[] 26)) w.heap.size 26 1 (some ⟨w.heap.size, 0, none⟩) 0 0 [] from Own.lit (Nat.le_refl _))
  have BW := Lib.hid (show Below w.heap.size w (w.alloc (.cells #[] 26)) from below_size.alloc (Nat.le_refl _) _)
  by_cases h0 : s = []
  · have g0 : (s == ([] : List UInt8)) = true := by rw [beq_iff_eq]; exact h0
    have HG := Lib.hid (show (([], true) : List (List Int) × Bool) = R by rw [← HR.out, h0]; rfl)
    subst h0
    clear hR
    go_enter Tryz.func64, Tryz.ntmps64
    go_wp2_with fail
    go_ret2
    rw [← HG.out]
    exact ⟨_, 0, 0, [], rfl, OwnS.nil OW.out, rfl, BW.out⟩
  have g0 : (s == ([] : List UInt8)) = false := by rw [beq_eq_false_iff_ne]; exact h0
  have g0' : s.isEmpty = false := by cases s with
    | nil => exact absurd rfl h0
    | cons a b => rfl
  obtain ⟨parts, hp⟩ : ∃ p, spl 44 s = p := ⟨_, rfl⟩
  obtain ⟨m, hm⟩ : ∃ m, parts.length = m := ⟨_, rfl⟩
  have HNM := Lib.hid (show wdR s = if 300 < m then none else allW parts by rw [wdR, if_neg h0, hp, hm])
  have hmb : m ≤ 1048577 := by rw [← hm, ← hp, spl_len]; have := List.count_le_length (a := 44) (l := s); omega
  have HPL := Lib.hid (show ∀ x ∈ parts, x.length ≤ 1048576 from fun x hx => by have := spl_piece 44 s x (by rw [hp]; exact hx); omega)
  have HSP := Lib.hid (show ∀ cv : Int, cv = 44 → Calls Tryz.prog 21 #[.string (bs s), .int .u8 cv] (w.alloc (.cells #[] 26)) (StrOut parts m (w.alloc (.cells #[] 26))) from fun cv hcv => by
    have := l01Split_c s 44 cv (by rw [hcv]; rfl) m (by rw [hp, hm]) (w.alloc (.cells #[] 26)) hs
    rw [hp] at this; exact this)
  have HM := Lib.hid hm
  clear hp hm hR hs h0
  by_cases h3 : 300 < m
  · have HG := Lib.hid (show (([], false) : List (List Int) × Bool) = R by rw [← HR.out, HNM.out, if_pos h3]; rfl)
    go_enter Tryz.func64, Tryz.ntmps64
    go_wp2_with (go_at_call 21; refine (HSP.out _ (by omega)).mono ?_; rintro e w2 ⟨A, c, rfl, hA, hb2⟩; have B2 := Lib.hid (BW.out.trans (hb2.mono BW.out.size)); clear hA hb2)
    go_ret2
    rw [← HG.out]
    exact WdsOut.bad B2.out
  have HND := Lib.hid (show wdR s = allW parts by rw [HNM.out, if_neg h3])
  clear HNM
  go_enter Tryz.func64, Tryz.ntmps64
  go_wp2_with (go_at_call 21; refine (HSP.out _ (by omega)).mono ?_; rintro e w2 ⟨A, c, rfl, hA, hb2⟩; have PA := Lib.hid hA; have B2 := Lib.hid (BW.out.trans (hb2.mono BW.out.size)); have O2 := Lib.hid (OW.out.keep hb2); clear hA hb2)
  go_loopw [4, 6] (fun ov iv wr => ∃ (i : Nat) (acc : List (List Int)) (its : List It) (C : Option Addr) (cc : Nat), iv = .int .i64 i ∧ ov = .slice C i cc ∧ i ≤ m ∧ Hid (allW parts = (allW (parts.drop i)).map (acc ++ ·)) ∧ Hid (its.map It.xs = acc) ∧ Hid (OwnS wr w.heap.size 26 1 C i cc (its.map hdI) (its.map bodyI)) ∧ KpB w.heap.size w2 wr C ∧ Below w.heap.size w wr) (fun _ iv _ => m - (intOf iv).toNat)
  case atStart => exact ⟨0, [], [], _, _, rfl, rfl, by omega, by simp [Hid], rfl, OwnS.nil O2.out, KpB.start fun ad e => (by injection e with e; rw [← e]), B2.out⟩
  case round =>
    obtain ⟨i, acc, its, C, cc, rfl, rfl, hi, hd, hit, hO, hkp, hb⟩ := hrel
    have HB := Lib.hid hb; have HK := Lib.hid hkp
    have hwz := hb.size
    by_cases hlt : i < m
    · obtain ⟨ad, x, rfl, hx, hc⟩ := RdOwn.at_ PA.out (g := w.heap.size) (by simp) hkp hlt
      have HC := Lib.hid (l03Read_c x wr (HPL.out x (List.mem_of_getElem? hx)))
      have HX := Lib.hid hx
      clear hx hb hkp
      go_wp2_with fail
      refine HC.out.mono ?_
      rintro e w4 ⟨A', n', c', xs, q, rfl, ho4, hq, hb4⟩
      have P4 := Lib.hid ho4; have C4 := Lib.hid hb4; have B4 := Lib.hid (HB.out.trans (hb4.mono hwz)); have z4 := hb4.size
      have HQ := Lib.hid hq
      have hnx : xs.length = n' := by have := ho4.1; rw [List.length_map] at this; omega
      have HNX := Lib.hid hnx
      clear ho4 hb4 hq hnx
      cases q
      · have HG := Lib.hid (show (([], false) : List (List Int) × Bool) = R by rw [← HR.out, HND.out, allW_no HX.out (by rw [HQ.out, if_neg (by simp)]) hd.out]; rfl)
        clear hd
        go_wp2_with fail
        go_ret2
        rw [← HG.out]
        exact WdsOut.bad B4.out
      · have HD := Lib.hid (allW_yes HX.out (by rw [HQ.out, if_pos rfl]) hd.out)
        have O4 := Lib.hid (hO.out.keep C4.out)
        have HIT := Lib.hid (show (its ++ [(⟨A', n', c', xs⟩ : It)]).map It.xs = acc ++ [xs] by rw [List.map_append, hit.out]; rfl)
        have W5 := Lib.hid (show Wr (w4.alloc (.cells #[.slice A' n' c'] 26)) wr.heap.size (w4.alloc (.cells #[.slice A' n' c'] 26)).heap.size A' n' (xs.map i64) from (P4.out.wr.below (below_size.alloc (Nat.le_refl _) _)).wider (Nat.le_refl _) (by simp))
        have B5 := Lib.hid (show Below wr.heap.size wr (w4.alloc (.cells #[.slice A' n' c'] 26)) from C4.out.alloc z4 _)
        clear hd
        go_wp2_with (at_builtin; refine wp_app1 (by rfl) _ _ 40 26 (.slice none 0 0) 24 (by rfl) Tryz.underlying40 info_sI rfl w.heap.size C i cc (its.map hdI) (by rfl) (by exact (O4.out.own.alloc _)) w4.heap.size (.slice A' n' c') (by rfl) (by exact new_cell _ _ _ 0) rfl (by omega) (by omega) (by simp; omega) ?_; intro g' cap w3 own3 hb3 hk3 hg3 hz3; have O3 := Lib.hid (OwnS.push hO.out hwz B5.out (s := ⟨A', n', xs.map i64⟩) W5.out own3 hk3 hg3 hz3); have K3 := Lib.hid (KpB.push (B' := some ⟨g', 0, none⟩) HK.out C4.out hk3 hz3 (hg3.elim (fun e => .inl e.symm) (fun e => .inr fun ad h => by injection h with h; subst h; exact Nat.le_of_eq e.symm))); have E3 := Lib.hid ((B4.out.alloc (by omega) _).trans hb3); clear own3 hb3 hk3 hg3 hz3)
        go_roundw
        case rel => exact ⟨i + 1, acc ++ [xs], its ++ [⟨A', n', c', xs⟩], some ⟨g', 0, none⟩, cap, by go_num, rfl, by omega, HD.out, HIT, by unfold Hid; rw [List.map_append, List.map_append]; exact O3.out, K3.out, E3.out⟩
        case measure => simp [intOf]; omega
    · obtain rfl : i = m := by omega
      have HG := Lib.hid (show (acc, true) = R by rw [← HR.out, HND.out, allW_end (by rw [HM.out]; exact Nat.le_refl _) hd.out]; rfl)
      clear hb hkp
      go_wp2_with fail
      go_ret2
      rw [← HG.out]
      exact ⟨C, i, cc, its, rfl, hO.out, hit.out, HB.out⟩
end Go.Proofs.YtdendllginlidaaGreatDoor
