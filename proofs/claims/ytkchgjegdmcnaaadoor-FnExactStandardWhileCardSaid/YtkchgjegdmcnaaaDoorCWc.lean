/-
  Contracts of chapter 22: valid programs, of the program.
-/
import Derived.Test.YtkchgjegdmcnaaaDoorCWb
namespace Go.Proofs.YtkchgjegdmcnaaaDoor
open Go.RowKit

theorem RdCS.none0 (w : World) (A : Option Addr) : RdS w (sgCS A 0 []) := RdS.cons ⟨rfl, fun h => absurd h (by simp)⟩ RdS.nil
set_option maxHeartbeats 4000000 in
set_option maxRecDepth 100000 in
theorem validCommands_c (N : Nat) : ∀ (A : Option Addr) (n cp : Nat) (ps : List Ct) (q : Bool) (w : World), n ≤ N → RdS w (sgCS A n ps) → n ≤ cp → n ≤ 80 → (∀ t ∈ ps, t.n ≤ 1000000000) → vcL (ps.map datC) = q →
    Calls Tryd.prog 36 #[.slice A n cp] w fun e w' => e = .returned (.bool q) ∧ Below w.heap.size w w' := by
  induction N with
  | zero =>
    intro A n cp ps q w hN h hcp hn hi hq
    obtain rfl : n = 0 := by omega
    have hl := RdCS.len h
    have e : ps = [] := List.length_eq_zero_iff.1 hl
    subst e
    rw [List.map_nil, vcL_nil] at hq
    subst hq
    clear h hi
    go_enter Tryd.func36, Tryd.ntmps36
    go_wp2_with fail
    go_loopw [3] (fun kv wr => kv = .int .i64 0 ∧ wr = w) (fun _ _ => 0)
    case atStart => exact ⟨rfl, rfl⟩
    case round =>
      obtain ⟨rfl, rfl⟩ := hrel
      go_wp2_with fail
      go_ret
      exact ⟨rfl, below_size⟩
  | succ N IH =>
    intro A n cp ps q w hN h hcp hn hi hq
    have HIH := Lib.hid IH
    have HL := Lib.hid (RdCS.len h)
    have H := Lib.hid h; have HI := Lib.hid hi
    obtain ⟨D, hD⟩ : ∃ D, ps.map datC = D := ⟨_, rfl⟩
    have HD := Lib.hid hD
    have HDL := Lib.hid (show D.length = n by rw [← hD, List.length_map, HL.out])
    rw [hD] at hq
    have HQ := Lib.hid hq
    clear hD hq h hi IH
    go_enter Tryd.func36, Tryd.ntmps36
    go_wp2_with fail
    go_loopw [3] (fun kv wr => ∃ k : Nat, k ≤ n ∧ kv = .int .i64 k ∧ Hid (vcL (D.drop k) = q) ∧ Below w.heap.size w wr) (fun kv _ => n - (intOf kv).toNat)
    case atStart => exact ⟨0, by omega, rfl, HQ.out, below_size⟩
    case round =>
      obtain ⟨k, hk, rfl, hr, hb⟩ := hrel
      have HB := Lib.hid hb
      by_cases hlt : k < n
      · obtain ⟨ad, x, rfl, hab, hx, hc0, hc1, hc2, hc3, hrd⟩ := RdCS.at_ (H.out.below hb) hlt
        have HX := Lib.hid (show D[k]? = some (datC x) by rw [← HD.out, List.getElem?_map, hx]; rfl)
        have hxi := HI.out _ (List.mem_of_getElem? hx)
        obtain ⟨kd, vr, ln, xA, xn, xc, xs⟩ := x
        simp only [datC] at HX
        simp only at hc0 hc1 hc2 hc3 hrd hxi
        have hzB := hb.size
        have BA := Lib.hid (show Below wr.heap.size wr (wr.alloc (.cells #[i64 kd, i64 vr, i64 ln, .slice xA xn xc] 42)) from below_size.alloc (Nat.le_refl _) _)
        have R := Lib.hid (show Rd2 (wr.alloc (.cells #[i64 kd, i64 vr, i64 ln, .slice xA xn xc] 42)) xA xn xs from Rd.alloc hrd.head _)
        have n0 : (wr.alloc (.cells #[i64 kd, i64 vr, i64 ln, .slice xA xn xc] 42)).cell? ⟨wr.heap.size, 0, none⟩ = some (i64 kd) := new_cell wr _ _ 0
        have n1 : (wr.alloc (.cells #[i64 kd, i64 vr, i64 ln, .slice xA xn xc] 42)).cell? ⟨wr.heap.size, 1, none⟩ = some (i64 vr) := new_cell wr _ _ 1
        have n2 : (wr.alloc (.cells #[i64 kd, i64 vr, i64 ln, .slice xA xn xc] 42)).cell? ⟨wr.heap.size, 2, none⟩ = some (i64 ln) := new_cell wr _ _ 2
        have HS := Lib.hid (show (validE xs && (if kd = 0 then inB vr 0 5 && decide (ln = 0) && vcL (D.drop (k + 1)) else if kd = 1 then decide (vr = 0) && inB ln 0 (D.drop (k + 1)).length && vcL ((D.drop (k + 1)).take ln.toNat) && vcL ((D.drop (k + 1)).drop ln.toNat) else false)) = q by rw [← hr.out, drop_at HX.out, vcL_cons])
        have HLD := Lib.hid (show (((D.drop (k + 1)).length : Nat) : Int) = (n : Int) - k - 1 by rw [List.length_drop, HDL.out]; omega)
        clear hr hrd hb
        cases hqe : validE xs
        · have HG := Lib.hid (show false = q by rw [← HS.out, hqe]; rfl)
          go_wp2_with (go_at_call 51; refine (validExpr_c _ _ _ xs false _ R.out hxi hqe).mono ?_; rintro e w1 ⟨rfl, hb1⟩)
          go_ret
          exact ⟨by rw [← HG.out]; rfl, below_chain HB.out hzB (below_chain BA.out BA.out.size hb1)⟩
        by_cases hk0 : kd = 0
        · subst hk0
          cases hqv : inB vr 0 5
          · have HG := Lib.hid (show false = q by rw [← HS.out, hqe, hqv]; rfl)
            go_wp2_with (first
              | (go_at_call 51; refine (validExpr_c _ _ _ xs true _ R.out hxi hqe).mono ?_; rintro e w1 ⟨rfl, hb1⟩; have c0 := keepc hb1 n0; have c1 := keepc hb1 n1; have c2 := keepc hb1 n2)
              | (go_at_call 52; refine (isWhileVariable_b vr false hqv _).mono ?_; rintro e w' ⟨rfl, rfl⟩))
            go_ret
            exact ⟨by rw [← HG.out]; rfl, below_chain HB.out hzB (below_chain BA.out BA.out.size hb1)⟩
          by_cases hl0 : ln = 0
          · subst hl0
            have HG := Lib.hid (show vcL (D.drop (k + 1)) = q by rw [← HS.out, hqe, hqv]; simp)
            clear HS
            go_wp2_with (first
              | (go_at_call 51; refine (validExpr_c _ _ _ xs true _ R.out hxi hqe).mono ?_; rintro e w1 ⟨rfl, hb1⟩; have c0 := keepc hb1 n0; have c1 := keepc hb1 n1; have c2 := keepc hb1 n2)
              | (go_at_call 52; refine (isWhileVariable_b vr true hqv _).mono ?_; rintro e w' ⟨rfl, rfl⟩))
            go_roundw
            case rel => exact ⟨k + 1, by omega, by go_num, HG.out, below_chain HB.out hzB (below_chain BA.out BA.out.size hb1)⟩
            case measure => simp [intOf]; omega
          · have gl : (ln != 0) = true := by simpa using hl0
            have HG := Lib.hid (show false = q by rw [← HS.out, hqe]; simp [hl0])
            go_wp2_with (first
              | (go_at_call 51; refine (validExpr_c _ _ _ xs true _ R.out hxi hqe).mono ?_; rintro e w1 ⟨rfl, hb1⟩; have c0 := keepc hb1 n0; have c1 := keepc hb1 n1; have c2 := keepc hb1 n2)
              | (go_at_call 52; refine (isWhileVariable_b vr true hqv _).mono ?_; rintro e w' ⟨rfl, rfl⟩))
            go_ret
            exact ⟨by rw [← HG.out]; rfl, below_chain HB.out hzB (below_chain BA.out BA.out.size hb1)⟩
        have gk0 : (kd == 0) = false := by simpa using hk0
        by_cases hk1 : kd = 1
        rotate_left
        · have gk1 : (kd == 1) = false := by simpa using hk1
          have HG := Lib.hid (show false = q by rw [← HS.out, if_neg hk0, if_neg hk1]; simp)
          go_wp2_with (go_at_call 51; refine (validExpr_c _ _ _ xs true _ R.out hxi hqe).mono ?_; rintro e w1 ⟨rfl, hb1⟩; have c0 := keepc hb1 n0; have c1 := keepc hb1 n1; have c2 := keepc hb1 n2)
          go_ret
          exact ⟨by rw [← HG.out]; rfl, below_chain HB.out hzB (below_chain BA.out BA.out.size hb1)⟩
        subst hk1
        by_cases hv0 : vr = 0
        rotate_left
        · have gv0 : (vr != 0) = true := by simpa using hv0
          have HG := Lib.hid (show false = q by rw [← HS.out]; simp [hv0])
          go_wp2_with (go_at_call 51; refine (validExpr_c _ _ _ xs true _ R.out hxi hqe).mono ?_; rintro e w1 ⟨rfl, hb1⟩; have c0 := keepc hb1 n0; have c1 := keepc hb1 n1; have c2 := keepc hb1 n2)
          go_ret
          exact ⟨by rw [← HG.out]; rfl, below_chain HB.out hzB (below_chain BA.out BA.out.size hb1)⟩
        subst hv0
        cases hlq : inB ln 0 ((n : Int) - k - 1)
        · have HG := Lib.hid (show false = q by rw [← HS.out, HLD.out, hlq]; simp)
          go_wp2_with (first
            | (go_at_call 51; refine (validExpr_c _ _ _ xs true _ R.out hxi hqe).mono ?_; rintro e w1 ⟨rfl, hb1⟩; have c0 := keepc hb1 n0; have c1 := keepc hb1 n1; have c2 := keepc hb1 n2)
            | (go_at_call 53; refine (within_b ln 0 ((n : Int) - k - 1) false hlq _).mono ?_; rintro e w' ⟨rfl, rfl⟩))
          go_ret
          exact ⟨by rw [← HG.out]; rfl, below_chain HB.out hzB (below_chain BA.out BA.out.size hb1)⟩
        have hlr := inB_t hlq
        obtain ⟨m, rfl⟩ : ∃ m : Nat, ln = (m : Int) := ⟨ln.toNat, by omega⟩
        obtain ⟨b, hbb⟩ : ∃ b, vcL ((D.drop (k + 1)).take m) = b := ⟨_, rfl⟩
        have HS2 := Lib.hid (show (b && vcL (D.drop (k + 1 + m))) = q by
          rw [← HS.out, hqe, if_neg (by decide), if_pos rfl, Int.toNat_natCast, hbb, List.drop_drop, HLD.out, hlq]; simp)
        have HSUB := Lib.hid (show ∀ B c wz, Below w.heap.size w wz → (B = some (ad.add ((k + 1) * 4)) ∨ m = 0) → m ≤ c →
            Calls Tryd.prog 36 #[.slice B m c] wz fun e w' => e = .returned (.bool b) ∧ Below wz.heap.size wz w' from by
          intro B c wz hz hB hc
          refine HIH.out B m c ((ps.drop (k + 1)).take m) b wz (by omega) ?_ hc (by omega) (fun t ht => HI.out t (List.mem_of_mem_drop (List.mem_of_mem_take ht))) (by rw [← hbb, ← HD.out, List.map_take, List.map_drop])
          rcases hB with rfl | rfl
          · exact RdCS.part (H.out.below hz) (by omega)
          · exact RdCS.none0 _ _)
        have HBT := Lib.hid (show m = 0 → b = true from fun h => by rw [← hbb, h, List.take_zero, vcL_nil])
        clear HS HIH hbb
        by_cases hkc : k + 1 = cp
        · have hm0 : m = 0 := by omega
          subst hm0
          have HB0 := Lib.hid (show b = true from HBT.out rfl)
          have HG := Lib.hid (show vcL (D.drop (k + 1)) = q by rw [← HS2.out, HB0.out]; rfl)
          rw [HB0.out] at HSUB
          clear HS2 HB0 HBT
          go_wp2_with (first
            | (go_at_call 51; refine (validExpr_c _ _ _ xs true _ R.out hxi hqe).mono ?_; rintro e w1 ⟨rfl, hb1⟩; have c0 := keepc hb1 n0; have c1 := keepc hb1 n1; have c2 := keepc hb1 n2; have BW := Lib.hid (below_chain HB.out hzB (below_chain BA.out BA.out.size hb1)))
            | (go_at_call 53; refine (within_b _ 0 ((n : Int) - k - 1) true hlq _).mono ?_; rintro e w' ⟨rfl, rfl⟩)
            | (go_at_call 36; refine (HSUB.out _ _ _ BW.out (by simp) (by omega)).mono ?_; rintro e w2 ⟨rfl, hb2⟩; have d2 := keepc hb2 c2))
          go_roundw
          case rel => exact ⟨k + 1, by omega, by go_num, HG.out, below_chain BW.out BW.out.size hb2⟩
          case measure => simp [intOf]; omega
        cases b
        · have HG := Lib.hid (show false = q by rw [← HS2.out]; rfl)
          go_wp2_with (first
            | (go_at_call 51; refine (validExpr_c _ _ _ xs true _ R.out hxi hqe).mono ?_; rintro e w1 ⟨rfl, hb1⟩; have c0 := keepc hb1 n0; have c1 := keepc hb1 n1; have c2 := keepc hb1 n2; have BW := Lib.hid (below_chain HB.out hzB (below_chain BA.out BA.out.size hb1)))
            | (go_at_call 53; refine (within_b m 0 ((n : Int) - k - 1) true hlq _).mono ?_; rintro e w' ⟨rfl, rfl⟩)
            | (go_at_call 36; refine (HSUB.out _ _ _ BW.out (by first | exact .inl rfl | exact .inr (by omega)) (by omega)).mono ?_; rintro e w2 ⟨rfl, hb2⟩; have d2 := keepc hb2 c2))
          go_ret
          exact ⟨by rw [← HG.out]; rfl, below_chain BW.out BW.out.size hb2⟩
        · have HG := Lib.hid (show vcL (D.drop (k + 1 + m)) = q by rw [← HS2.out]; rfl)
          go_wp2_with (first
            | (go_at_call 51; refine (validExpr_c _ _ _ xs true _ R.out hxi hqe).mono ?_; rintro e w1 ⟨rfl, hb1⟩; have c0 := keepc hb1 n0; have c1 := keepc hb1 n1; have c2 := keepc hb1 n2; have BW := Lib.hid (below_chain HB.out hzB (below_chain BA.out BA.out.size hb1)))
            | (go_at_call 53; refine (within_b m 0 ((n : Int) - k - 1) true hlq _).mono ?_; rintro e w' ⟨rfl, rfl⟩)
            | (go_at_call 36; refine (HSUB.out _ _ _ BW.out (by first | exact .inl rfl | exact .inr (by omega)) (by omega)).mono ?_; rintro e w2 ⟨rfl, hb2⟩; have d2 := keepc hb2 c2))
          go_roundw
          case rel => exact ⟨k + 1 + m, by omega, by go_num, HG.out, below_chain BW.out BW.out.size hb2⟩
          case measure => simp [intOf]; omega
      · have HG := Lib.hid (show true = q by rw [← hr.out, List.drop_eq_nil_of_le (by rw [HDL.out]; omega), vcL_nil])
        clear hr hb
        go_wp2_with fail
        go_ret
        exact ⟨by rw [← HG.out]; rfl, HB.out⟩
set_option maxHeartbeats 1000000 in
theorem validWhile_c (A : Option Addr) (n cp : Nat) (ps : List Ct) (q : Bool) (w : World) (h : RdS w (sgCS A n ps)) (hcp : n ≤ cp) (hn : n ≤ 1000000000) (hi0 : ∀ t ∈ ps, t.n ≤ 1000000000) (hq : validW (ps.map datC) = q) :
    Calls Tryd.prog 21 #[.slice A n cp] w fun e w' => e = .returned (.bool q) ∧ Below w.heap.size w w' := by
  have HQ := Lib.hid (show (decide (n ≤ 80) && vcL (ps.map datC)) = q by rw [← hq, validW, List.length_map, RdCS.len h])
  by_cases h80 : n ≤ 80
  · have k2 : decide ((n : Int) ≤ 80) = true := by rw [decide_eq_true_eq]; omega
    have HV := Lib.hid (show vcL (ps.map datC) = q by rw [← HQ.out]; simp [h80])
    have H := Lib.hid h; have HI := Lib.hid hi0
    clear h hi0 hq
    go_enter Tryd.func21, Tryd.ntmps21
    go_wp2_with (go_at_call 36; refine (validCommands_c n A n cp ps q _ (Nat.le_refl _) H.out hcp h80 HI.out HV.out).mono ?_; rintro e w2 ⟨rfl, hb2⟩)
    go_ret
    exact ⟨rfl, hb2⟩
  · have k2 : decide ((n : Int) ≤ 80) = false := by rw [decide_eq_false_iff_not]; omega
    have HF := Lib.hid (show false = q by rw [← HQ.out]; simp [h80])
    clear h hi0 hq
    go_enter Tryd.func21, Tryd.ntmps21
    go_wp2_with fail
    go_ret
    exact ⟨by rw [← HF.out]; rfl, below_size⟩
end Go.Proofs.YtkchgjegdmcnaaaDoor
