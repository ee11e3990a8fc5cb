/-
  Parts of the proof, one behind the other: contracts of the functions that the law reaches, and plain laws.
-/
import Derived.Laws.CopyOwn
import Derived.Test.YtebjpmmgdkepjaaGreatDoorLot03
import Derived.Test.YtebjpmmgdkepjaaGreatDoorLot05
import Derived.Test.YtebjpmmgdkepjaaGreatDoorLot06
import Derived.Test.YtebjpmmgdkepjaaGreatDoorLot07
import Derived.Test.YtebjpmmgdkepjaaGreatDoorLot08
import Derived.Test.YtebjpmmgdkepjaaGreatDoorLot09
import Derived.Test.YtebjpmmgdkepjaaGreatDoorLot14
/-
  Contracts of chapter 18: numbers put in their places; names and applications of the reference.
-/
namespace Go.Proofs.YtebjpmmgdkepjaaGreatDoor
open Go.RowKit

/-- numbers of the call's own, that may grow -/
def OwnOut (xs : List Int) (w : World) (e : Ending) (w' : World) : Prop := ∃ A c, e = .returned (.slice A xs.length c) ∧ Own w' w.heap.size 2 1 A xs.length c (xs.map i64) ∧ Below w.heap.size w w'
set_option maxHeartbeats 4000000 in
set_option maxRecDepth 100000 in
theorem l00Put_c (A : Option Addr) (n c : Nat) (xs : List Int) (v : Int) (w : World) (h : RdI w A n xs) (hn : n ≤ 1000000) :
    Calls Tryz.prog 173 #[.slice A n c, .int .i64 v] w (OwnOut (putS v xs) w) := by
  have HL := Lib.hid h.len
  have H := Lib.hid h; clear h
  obtain ⟨R, hR⟩ : ∃ R, putS v xs = R := ⟨_, rfl⟩
  rw [hR]
  have HR := Lib.hid hR
  clear hR
  go_enter Tryz.func173, Tryz.ntmps173
  go_wp2_with fail
  go_loopw [5, 6, 7] (fun ov dv iv wr => ∃ (k m cc : Nat) (O : Option Addr) (acc : List Int) (d : Bool), k ≤ n ∧ m ≤ k + 1 ∧ (d = false → m ≤ k) ∧ iv = .int .i64 k ∧ dv = .bool d ∧ ov = .slice O m cc ∧ Hid (Own wr w.heap.size 2 1 O m cc (acc.map i64)) ∧ Hid (acc ++ (if d = true then xs.drop k else putS v (xs.drop k)) = R) ∧ Below w.heap.size w wr) (fun _ _ iv _ => n - (intOf iv).toNat)
  case atStart => exact ⟨0, 0, 0, some ⟨w.heap.size, 0, none⟩, [], false, by omega, by omega, fun _ => by omega, rfl, rfl, rfl, Own.lit (Nat.le_refl _), HR.out, below_size.alloc (Nat.le_refl _) _⟩
  case round =>
    obtain ⟨k, m, cc, O, acc, d, hk, hmk, hmd, rfl, rfl, rfl, hO, hr, hb⟩ := hrel
    have HB := Lib.hid hb
    have hwz := hb.size
    by_cases hlt : k < n
    · obtain ⟨ad, x, rfl, hab, hx, hc⟩ := (RdI.below H.out hb).at_ hlt
      have HX := Lib.hid hx
      clear hx hb
      cases d
      · have HS := Lib.hid (show acc ++ putS v (x :: xs.drop (k + 1)) = R by rw [← hr.out, drop_at HX.out]; rfl)
        clear hr
        by_cases hge : v ≤ x
        · have g1 : decide (v ≤ x) = true := by simpa using hge
          by_cases heq : x = v
          · subst heq
            have g2 : decide (x < x) = false := by simp
            have HG := Lib.hid (show (acc ++ [x]) ++ xs.drop (k + 1) = R by rw [← HS.out, putS, if_pos hge, if_pos rfl]; simp)
            clear HS
            go_wp2_with (at_builtin; refine wp_app1 (by rfl) _ _ 29 2 (.int .i64 0) 8 (by rfl) Tryz.underlying29 info_i64 rfl w.heap.size O m cc (acc.map i64) (by rfl) (by exact hO.out.alloc _) wr.heap.size (i64 x) (by rfl) (by exact new_cell _ _ _ 0) rfl (by omega) (by omega) (by simp; omega) ?_; intro g' cap w3 own3 hb3 hk3 hg3 hz3)
            have O3 := Lib.hid own3; have B3 := Lib.hid ((HB.out.alloc hwz _).trans hb3)
            clear own3 hb3 hk3 hg3 hz3
            go_wp2_with fail
            go_roundw
            case rel => exact ⟨k + 1, m + 1, cap, some ⟨g', 0, none⟩, acc ++ [x], true, by omega, by omega, (fun h => by cases h), by go_num, rfl, rfl, by unfold Hid; rw [List.map_append]; exact O3.out, HG.out, B3.out⟩
            case measure => simp [intOf]; omega
          · have g2 : decide (v < x) = true := by rw [decide_eq_true_eq]; omega
            have HG := Lib.hid (show (acc ++ [v] ++ [x]) ++ xs.drop (k + 1) = R by rw [← HS.out, putS, if_pos hge, if_neg heq]; simp)
            clear HS
            have hm1 := hmd rfl
            go_wp2_with (first
              | (at_builtin; refine wp_app1 (by rfl) _ _ 29 2 (.int .i64 0) 8 (by rfl) Tryz.underlying29 info_i64 rfl w.heap.size O m cc (acc.map i64) (by rfl) (by exact hO.out.alloc _) wr.heap.size (i64 v) (by rfl) (by exact new_cell _ _ _ 0) rfl (by omega) (by omega) (by simp; omega) ?_; intro g2 cap2 w2 own2 hb2 hk2 hg2 hz2; have O2 := Lib.hid own2; have B2 := Lib.hid ((HB.out.alloc hwz _).trans hb2); have hz22 := B2.out.size; have hc2 : w2.cell? (ad.add k) = some (.int .i64 x) := by obtain ⟨_, y, e, _, hy, hc'⟩ := (RdI.below H.out B2.out).at_ hlt; injection e with e; subst e; have := HX.out; rw [hy] at this; injection this with this; rw [← this]; exact hc')
              | (at_builtin; refine wp_app1 (by rfl) _ _ 29 2 (.int .i64 0) 8 (by rfl) Tryz.underlying29 info_i64 rfl w.heap.size (some ⟨g2, 0, none⟩) (m + 1) cap2 (acc.map i64 ++ [i64 v]) (by rfl) (by exact O2.out.alloc _) w2.heap.size (i64 x) (by rfl) (by exact new_cell _ _ _ 0) rfl (by omega) (by omega) (by simp; omega) ?_; intro g' cap w3 own3 hb3 hk3 hg3 hz3))
            have O3 := Lib.hid own3; have B3 := Lib.hid ((B2.out.alloc hz22 _).trans hb3)
            clear own3 hb3 hk3 hg3 hz3
            go_wp2_with fail
            go_roundw
            case rel => exact ⟨k + 1, m + 1 + 1, cap, some ⟨g', 0, none⟩, acc ++ [v] ++ [x], true, by omega, by omega, (fun h => by cases h), by go_num, rfl, rfl, by unfold Hid; rw [List.map_append, List.map_append]; exact O3.out, HG.out, B3.out⟩
            case measure => simp [intOf]; omega
        · have g1 : decide (v ≤ x) = false := by simpa using hge
          have HG := Lib.hid (show (acc ++ [x]) ++ putS v (xs.drop (k + 1)) = R by rw [← HS.out, putS, if_neg hge]; simp)
          clear HS
          go_wp2_with (at_builtin; refine wp_app1 (by rfl) _ _ 29 2 (.int .i64 0) 8 (by rfl) Tryz.underlying29 info_i64 rfl w.heap.size O m cc (acc.map i64) (by rfl) (by exact hO.out.alloc _) wr.heap.size (i64 x) (by rfl) (by exact new_cell _ _ _ 0) rfl (by omega) (by omega) (by simp; omega) ?_; intro g' cap w3 own3 hb3 hk3 hg3 hz3)
          have O3 := Lib.hid own3; have B3 := Lib.hid ((HB.out.alloc hwz _).trans hb3)
          clear own3 hb3 hk3 hg3 hz3
          go_wp2_with fail
          go_roundw
          case rel => exact ⟨k + 1, m + 1, cap, some ⟨g', 0, none⟩, acc ++ [x], false, by omega, by omega, (fun _ => by have := hmd rfl; omega), by go_num, rfl, rfl, by unfold Hid; rw [List.map_append]; exact O3.out, HG.out, B3.out⟩
          case measure => simp [intOf]; omega
      · have HG := Lib.hid (show (acc ++ [x]) ++ xs.drop (k + 1) = R by rw [← hr.out, drop_at HX.out]; simp)
        clear hr
        go_wp2_with (at_builtin; refine wp_app1 (by rfl) _ _ 29 2 (.int .i64 0) 8 (by rfl) Tryz.underlying29 info_i64 rfl w.heap.size O m cc (acc.map i64) (by rfl) (by exact hO.out.alloc _) wr.heap.size (i64 x) (by rfl) (by exact new_cell _ _ _ 0) rfl (by omega) (by omega) (by simp; omega) ?_; intro g' cap w3 own3 hb3 hk3 hg3 hz3)
        have O3 := Lib.hid own3; have B3 := Lib.hid ((HB.out.alloc hwz _).trans hb3)
        clear own3 hb3 hk3 hg3 hz3
        go_wp2_with fail
        go_roundw
        case rel => exact ⟨k + 1, m + 1, cap, some ⟨g', 0, none⟩, acc ++ [x], true, by omega, by omega, (fun h => by cases h), by go_num, rfl, rfl, by unfold Hid; rw [List.map_append]; exact O3.out, HG.out, B3.out⟩
        case measure => simp [intOf]; omega
    · obtain rfl : k = n := by omega
      have HE := Lib.hid (show xs.drop k = [] from List.drop_eq_nil_of_le (by rw [HL.out]; exact Nat.le_refl _))
      clear hb
      cases d
      · have HG := Lib.hid (show acc ++ [v] = R by rw [← hr.out, HE.out]; rfl)
        have hm1 := hmd rfl
        clear hr
        go_wp2_with (at_builtin; refine wp_app1 (by rfl) _ _ 29 2 (.int .i64 0) 8 (by rfl) Tryz.underlying29 info_i64 rfl w.heap.size O m cc (acc.map i64) (by rfl) (by exact hO.out.alloc _) wr.heap.size (i64 v) (by rfl) (by exact new_cell _ _ _ 0) rfl (by omega) (by omega) (by simp; omega) ?_; intro g' cap w3 own3 hb3 hk3 hg3 hz3)
        have O3 := Lib.hid (show Own w3 w.heap.size 2 1 (some ⟨g', 0, none⟩) (m + 1) cap (R.map i64) by rw [← HG.out, List.map_append]; exact own3)
        have B3 := Lib.hid ((HB.out.alloc hwz _).trans hb3)
        clear own3 hb3 hk3 hg3 hz3
        have hl := O3.out.wr.rdI.len
        go_wp2_with fail
        go_ret
        exact ⟨some ⟨g', 0, none⟩, cap, by rw [hl]; rfl, by rw [hl]; exact O3.out, B3.out⟩
      · have HG := Lib.hid (show acc = R by rw [← hr.out, HE.out]; simp)
        clear hr
        have O3 := Lib.hid (show Own wr w.heap.size 2 1 O m cc (R.map i64) by rw [← HG.out]; exact hO.out)
        have hl := O3.out.wr.rdI.len
        go_wp2_with fail
        go_ret
        exact ⟨O, cc, by rw [hl]; rfl, by rw [hl]; exact O3.out, HB.out⟩
set_option maxHeartbeats 2000000 in
theorem l18Names_c (A : Option Addr) (n cp : Nat) (c : List (Int × Int)) (R : List Int) (w : World) (h : Rd2 w A n c) (hn : n ≤ 100000) (hR : namesC c = R) :
    Calls Tryz.prog 131 #[.slice A n cp] w (OwnOut R w) := by
  have HL := Lib.hid h.len
  have H := Lib.hid h; have HR := Lib.hid hR; clear h hR
  go_enter Tryz.func131, Tryz.ntmps131
  go_wp2_with fail
  go_loopw [3, 4] (fun ov iv wr => ∃ (k cc : Nat) (O : Option Addr) (acc : List Int), k ≤ n ∧ acc.length ≤ k ∧ iv = .int .i64 k ∧ ov = .slice O acc.length cc ∧ Hid (Own wr w.heap.size 2 1 O acc.length cc (acc.map i64)) ∧ Hid ((varsC (c.drop k)).foldl (fun out v => putS v out) acc = R) ∧ Below w.heap.size w wr) (fun _ iv _ => n - (intOf iv).toNat)
  case atStart => exact ⟨0, 0, some ⟨w.heap.size, 0, none⟩, [], by omega, by simp, rfl, rfl, Own.lit (Nat.le_refl _), HR.out, below_size.alloc (Nat.le_refl _) _⟩
  case round =>
    obtain ⟨k, cc, O, acc, hk, hak, rfl, rfl, hO, hr, hb⟩ := hrel
    have HB := Lib.hid hb
    have hwz := hb.size
    by_cases hlt : k < n
    · obtain ⟨ad, x, rfl, hab, hx, hc0, hc1⟩ := (H.out.below hb).at_ hlt
      obtain ⟨t, v⟩ := x
      have HS := Lib.hid (show (varsC ((t, v) :: c.drop (k + 1))).foldl (fun out v => putS v out) acc = R by rw [← hr.out, drop_at hx])
      simp only at hc0 hc1
      clear hx hb hr
      by_cases h4 : t = 4
      · subst h4
        have HG := Lib.hid (show (varsC (c.drop (k + 1))).foldl (fun out v => putS v out) (putS v acc) = R by rw [← HS.out]; simp [varsC])
        have hpl := putS_len (v := v) (l := acc)
        go_wp2_with (go_at_call 173; refine (l00Put_c _ _ _ acc v _ hO.out.wr.rdI (by omega)).mono ?_; rintro e w2 ⟨A2, c2, rfl, ho2, hb2⟩)
        go_roundw
        case rel => exact ⟨k + 1, c2, A2, putS v acc, by omega, by omega, by go_num, rfl, ho2.widen hwz, HG.out, below_chain HB.out hwz hb2⟩
        case measure => simp [intOf]; omega
      · have g4 : (t == 4) = false := by simpa using h4
        have HG := Lib.hid (show (varsC (c.drop (k + 1))).foldl (fun out v => putS v out) acc = R by rw [← HS.out]; simp [varsC, h4])
        go_wp2_with fail
        go_roundw
        case rel => exact ⟨k + 1, cc, O, acc, by omega, by omega, by go_num, rfl, hO.out, HG.out, HB.out⟩
        case measure => simp [intOf]; omega
    · have HG := Lib.hid (show acc = R by rw [← hr.out, List.drop_eq_nil_of_le (by rw [HL.out]; omega)]; rfl)
      clear hr hb
      go_wp2_with fail
      go_ret
      rw [← HG.out]
      exact ⟨O, cc, rfl, hO.out, HB.out⟩
theorem l18Name_c (v : Int) (w : World) : Calls Tryz.prog 91 #[.int .i64 v] w fun e w' => e = .returned (.slice (some ⟨w.heap.size, 0, none⟩) 1 1) ∧ w' = w.alloc (.cells #[.int .i64 4, .int .i64 v] 100) := by
  go_enter Tryz.func91, Tryz.ntmps91
  go_wp2_with fail
  go_ret
  exact ⟨rfl, rfl⟩
end Go.Proofs.YtebjpmmgdkepjaaGreatDoor
/-
  Contracts of chapter 12: combinator terms of the program: valid ones, ends, arguments.
-/
namespace Go.Proofs.YtebjpmmgdkepjaaGreatDoor
open Go.RowKit

theorem combFollow_c (a b : Int) (w : World) : Calls Tryz.prog 112 #[.agg #[.int .i64 a, .int .i64 b]] w fun e w' => e = .returned (.int .i64 (manyC a)) ∧ Below w.heap.size w w' := by
  by_cases h : a = 0
  · subst h
    go_enter Tryz.func112, Tryz.ntmps112
    go_wp2_with fail
    go_ret
    exact ⟨rfl, (by have hzz := ((below_size : Below w.heap.size w w)).size; repeat' (first | (with_reducible exact (below_size : Below w.heap.size w w)) | (with_reducible refine Below.alloc ?_ ?_ _) | (with_reducible refine Below.setCell ?_ ?_ _) | (with_reducible refine below_drew ?_) | omega | (simp; done) | (simp; omega)))⟩
  · have g : (a == 0) = false := by simpa using h
    have hm : manyC a = 0 := by rw [manyC, if_neg h]
    rw [hm]
    go_enter Tryz.func112, Tryz.ntmps112
    go_wp2_with fail
    go_ret
    exact ⟨rfl, (by have hzz := ((below_size : Below w.heap.size w w)).size; repeat' (first | (with_reducible exact (below_size : Below w.heap.size w w)) | (with_reducible refine Below.alloc ?_ ?_ _) | (with_reducible refine Below.setCell ?_ ?_ _) | (with_reducible refine below_drew ?_) | omega | (simp; done) | (simp; omega)))⟩
set_option maxHeartbeats 1000000 in
theorem termEndComb_c (A : Option Addr) (n cp : Nat) (c : List (Int × Int)) (k : Nat) (z : Int) (w : World) (h : Rd2 w A n c) (hn : n ≤ 1000000000) (hkn : k ≤ n) (hz : resE manyC c k 1 = z) :
    Calls Tryz.prog 111 #[.slice A n cp, .int .i64 k, .func (.func 112) #[] #[]] w fun e w' => e = .returned (.int .i64 z) ∧ Below w.heap.size w w' := by
  have HL := Lib.hid h.len
  have HZ := Lib.hid hz
  have H := Lib.hid h; clear h hz
  go_enter Tryz.func111, Tryz.ntmps111
  go_wp2_with fail
  go_loopw [1, 7] (fun kv ov wr => ∃ j o : Nat, j ≤ n ∧ o ≤ j + 1 ∧ kv = .int .i64 j ∧ ov = .int .i64 o ∧ Hid (resE manyC c j o = z) ∧ Below w.heap.size w wr) (fun kv _ _ => n - (intOf kv).toNat)
  case atStart => exact ⟨k, 1, hkn, by omega, rfl, rfl, HZ.out, below_size⟩
  case round =>
    obtain ⟨j, o, hj, ho, rfl, rfl, hr, hb⟩ := hrel
    have HB := Lib.hid hb
    by_cases ho0 : o = 0
    · subst ho0
      have HR := Lib.hid (show (j : Int) = z by rw [← hr.out, resE_zero])
      clear hr hb
      go_wp2_with fail
      go_ret
      exact ⟨by rw [← HR.out]; rfl, HB.out⟩
    have g0 : decide ((0 : Int) < (o : Int)) = true := by rw [decide_eq_true_eq]; omega
    by_cases hlt : j < n
    · obtain ⟨ad, x, rfl, hab, hx, hc0, hc1⟩ := (H.out.below hb).at_ hlt
      have HR := Lib.hid (show resE manyC c (j + 1) (o - 1 + manyC x.1) = z by rw [← hr.out, show o = o - 1 + 1 by omega, resE_step hx, Nat.add_sub_cancel])
      obtain ⟨t, v⟩ := x
      simp only at hc0 hc1 HR
      clear hr hx hb
      have hm : manyC t ≤ 2 := by unfold manyC; split <;> omega
      obtain ⟨f, hf⟩ : ∃ f, manyC t = f := ⟨_, rfl⟩
      have HC := Lib.hid (show ∀ w, Calls Tryz.prog 112 #[.agg #[.int .i64 t, .int .i64 v]] w fun e w' => e = .returned (.int .i64 f) ∧ Below w.heap.size w w' from fun w => by rw [← hf]; exact combFollow_c t v w)
      rw [hf] at HR hm
      have v1 : IntKind.i64.wrap ((f : Int) - 1) = (f : Int) - 1 := IntWalk.i64_in _ (by omega)
      have v2 : IntKind.i64.wrap ((o : Int) + ((f : Int) - 1)) = ((o - 1 + f : Nat) : Int) := by rw [IntWalk.i64_in _ (by omega)]; omega
      clear hf
      go_wp2_with (go_at_call 112; refine (HC.out _).mono ?_; rintro e w2 ⟨rfl, hb2⟩)
      go_roundw
      case rel => exact ⟨j + 1, o - 1 + f, by omega, by omega, by go_num, by go_num, HR.out, below_chain HB.out HB.out.size hb2⟩
      case measure => simp [intOf]; omega
    · have HR := Lib.hid (show (-1 : Int) = z by rw [← hr.out, show o = o - 1 + 1 by omega, resE_past (by rw [HL.out]; omega)])
      clear hr hb
      go_wp2_with fail
      go_ret
      exact ⟨by rw [← HR.out]; rfl, HB.out⟩
theorem combEnd_c (A : Option Addr) (n cp : Nat) (c : List (Int × Int)) (k : Nat) (z : Int) (w : World) (h : Rd2 w A n c) (hn : n ≤ 1000000000) (hkn : k ≤ n) (hz : resE manyC c k 1 = z) :
    Calls Tryz.prog 69 #[.slice A n cp, .int .i64 k] w fun e w' => e = .returned (.int .i64 z) ∧ Below w.heap.size w w' := by
  go_enter Tryz.func69, Tryz.ntmps69
  go_wp2_with (go_at_call 111; refine (termEndComb_c _ _ _ c k z _ h hn hkn hz).mono ?_; rintro e w2 ⟨rfl, hb2⟩)
  go_ret
  exact ⟨rfl, hb2⟩
theorem sizeComb_c (A : Option Addr) (n c : Nat) (w : World) (_hn : n ≤ 1000000000000) :
    Calls Tryz.prog 68 #[.slice A n c] w fun e w' => e = .returned (.int .i64 n) ∧ w = w' := by
  go_enter Tryz.func68, Tryz.ntmps68
  go_wp2
  go_ret
  exact ⟨rfl, rfl⟩
set_option maxHeartbeats 2000000 in
set_option maxRecDepth 100000 in
theorem validComb_c (A : Option Addr) (n cp : Nat) (c : List (Int × Int)) (q : Bool) (w : World) (h : Rd2 w A n c) (hn : n ≤ 1000000000) (hq : validC c = q) :
    Calls Tryz.prog 37 #[.slice A n cp] w fun e w' => e = .returned (.bool q) ∧ Below w.heap.size w w' := by
  have HL := Lib.hid h.len
  have HQ := Lib.hid (show (inB n 1 400 && c.all okC && decide (endP manyC c 1 = some c.length)) = q by rw [← hq, validC, h.len])
  have H := Lib.hid h; clear h hq
  cases hb1 : inB n 1 400
  · have HF := Lib.hid (show false = q by rw [← HQ.out, hb1]; rfl)
    go_enter Tryz.func37, Tryz.ntmps37
    go_wp2_with (first | (go_at_call 68; refine (sizeComb_c _ _ _ _ (by omega)).mono ?_; rintro e w' ⟨rfl, rfl⟩) | (go_at_call 24; refine (within_b _ _ _ _ (by assumption) _).mono ?_; rintro e w' ⟨rfl, rfl⟩))
    go_ret
    exact ⟨by rw [← HF.out]; rfl, below_size⟩
  have HF := Lib.hid (show (c.all okC && decide (endP manyC c 1 = some c.length)) = q by rw [← HQ.out, hb1]; rfl)
  have hn1 := inB_t hb1
  clear HQ
  go_enter Tryz.func37, Tryz.ntmps37
  go_wp2_with (first | (go_at_call 68; refine (sizeComb_c _ _ _ _ (by omega)).mono ?_; rintro e w' ⟨rfl, rfl⟩) | (go_at_call 24; refine (within_b _ _ _ _ (by assumption) _).mono ?_; rintro e w' ⟨rfl, rfl⟩))
  go_loopw [11] (fun iv wr => ∃ k : Nat, k ≤ n ∧ iv = .int .i64 k ∧ Hid (((c.drop k).all okC && decide (endP manyC c 1 = some c.length)) = q) ∧ Below w.heap.size w wr) (fun iv _ => n - (intOf iv).toNat)
  case atStart => exact ⟨0, by omega, rfl, HF.out, below_size⟩
  case round =>
    obtain ⟨k, hk, rfl, hr, hb⟩ := hrel
    have HB := Lib.hid hb
    by_cases hlt : k < n
    · obtain ⟨ad, x, rfl, hab, hx, hc0, hc1⟩ := (H.out.below hb).at_ hlt
      obtain ⟨p, v⟩ := x
      have HS := Lib.hid (show (okC (p, v) && ((c.drop (k + 1)).all okC && decide (endP manyC c 1 = some c.length))) = q by rw [← hr.out, drop_at hx, List.all_cons, Bool.and_assoc])
      simp only at hc0 hc1
      clear hx hb hr
      have HE := Lib.hid (show ∀ o, Below w.heap.size w (wr.alloc o) from fun o => HB.out.alloc HB.out.size o)
      cases hp : inB p 0 4
      · have HG := Lib.hid (show false = q by rw [← HS.out]; simp [okC, hp])
        go_wp2_with (first | (go_at_call 24; refine (within_b _ _ _ _ (by assumption) _).mono ?_; rintro e w' ⟨rfl, rfl⟩))
        go_ret
        exact ⟨by rw [← HG.out]; rfl, HE.out _⟩
      cases hv : inB v 0 399
      · have HG := Lib.hid (show false = q by rw [← HS.out]; simp [okC, hv])
        go_wp2_with (first | (go_at_call 24; refine (within_b _ _ _ _ (by assumption) _).mono ?_; rintro e w' ⟨rfl, rfl⟩))
        go_ret
        exact ⟨by rw [← HG.out]; rfl, HE.out _⟩
      by_cases h4 : p = 4
      · subst h4
        have HG := Lib.hid (show ((c.drop (k + 1)).all okC && decide (endP manyC c 1 = some c.length)) = q by rw [← HS.out]; simp [okC, hp, hv])
        go_wp2_with (first | (go_at_call 24; refine (within_b _ _ _ _ (by assumption) _).mono ?_; rintro e w' ⟨rfl, rfl⟩))
        go_roundw
        case rel => exact ⟨k + 1, by omega, by go_num, HG.out, HE.out _⟩
        case measure => simp [intOf]; omega
      have g4 : (p != 4) = true := by simpa using h4
      by_cases hv0 : v = 0
      · subst hv0
        have HG := Lib.hid (show ((c.drop (k + 1)).all okC && decide (endP manyC c 1 = some c.length)) = q by rw [← HS.out]; simp [okC, hp, hv])
        go_wp2_with (first | (go_at_call 24; refine (within_b _ _ _ _ (by assumption) _).mono ?_; rintro e w' ⟨rfl, rfl⟩))
        go_roundw
        case rel => exact ⟨k + 1, by omega, by go_num, HG.out, HE.out _⟩
        case measure => simp [intOf]; omega
      · have gv : (v != 0) = true := by simpa using hv0
        have HG := Lib.hid (show false = q by rw [← HS.out]; simp [okC, h4, hv0])
        go_wp2_with (first | (go_at_call 24; refine (within_b _ _ _ _ (by assumption) _).mono ?_; rintro e w' ⟨rfl, rfl⟩))
        go_ret
        exact ⟨by rw [← HG.out]; rfl, HE.out _⟩
    · have HG := Lib.hid (show decide (endP manyC c 1 = some c.length) = q by rw [← hr.out, List.drop_eq_nil_of_le (by rw [HL.out]; omega)]; rfl)
      clear hr hb
      obtain ⟨z, hz⟩ : ∃ z, resE manyC c 0 1 = z := ⟨_, rfl⟩
      have HZ := Lib.hid hz
      have HD := Lib.hid (show (z == (n : Int)) = q by
        rw [← HG.out, ← hz, resE, List.drop_zero, HL.out]
        cases endP manyC c 1 with
        | none =>
          show ((-1 : Int) == (n : Int)) = decide (none = some n)
          rw [show ((-1 : Int) == (n : Int)) = false by simp]; rfl
        | some p =>
          show (((0 + p : Nat) : Int) == (n : Int)) = decide (some p = some n)
          rw [Nat.zero_add]
          by_cases h : p = n
          · subst h; simp
          · rw [show ((p : Int) == (n : Int)) = false by simp; omega]; simp [h])
      have R := Lib.hid (H.out.below HB.out)
      clear hz
      go_wp2_with (go_at_call 69; refine (combEnd_c _ _ _ c 0 z _ R.out hn (by omega) HZ.out).mono ?_; rintro e w2 ⟨rfl, hb2⟩)
      go_ret
      exact ⟨by rw [← HD.out]; rfl, below_chain HB.out HB.out.size hb2⟩
/-- a form with so many arguments does not begin there -/
theorem argumentsNo_c (A : Option Addr) (n cp : Nat) (c : List (Int × Int)) (k : Nat) (kind M : Int) (many : Nat) (w : World) (h : Rd2 w A n c) (hn : n ≤ 1000000000) (hk : k ≤ n) (hf : tryF (c.drop k) kind many = false) (hM : M = (many : Int)) (hm : many ≤ 3) :
    Calls Tryz.prog 210 #[.slice A n cp, .int .i64 k, .int .i64 kind, .int .i64 M] w fun e w' => e = .returned (.tuple #[.slice none 0 0, .int .i64 (-1)]) ∧ w = w' := by
  subst hM
  have HL := Lib.hid h.len
  have H := Lib.hid h; have HF := Lib.hid hf; clear h hf
  go_enter Tryz.func210, Tryz.ntmps210
  go_wp2_with fail
  go_loop [15] (fun iv => ∃ i : Nat, i ≤ many ∧ k + i ≤ n ∧ iv = .int .i64 i ∧ Hid (tryF (c.drop (k + i)) kind (many - i) = false)) (fun iv => many - (intOf iv).toNat)
  case atStart => exact ⟨0, by omega, by omega, rfl, HF.out⟩
  case round =>
    obtain ⟨i, hi, hki, rfl, hr⟩ := hrel
    by_cases hlt : i < many
    · by_cases hn0 : k + i < n
      · obtain ⟨ad, x, rfl, hab, hx, hc0, hc1⟩ := H.out.at_ hn0
        obtain ⟨p, v⟩ := x
        have HS := Lib.hid (show ((p == 0) && tryF (c.drop (k + (i + 1))) kind (many - (i + 1))) = false by rw [← hr.out, drop_at hx, show many - i = many - (i + 1) + 1 by omega]; rfl)
        simp only at hc0 hc1
        clear hx hr
        by_cases h0 : p = 0
        · subst h0
          have HG := Lib.hid (show tryF (c.drop (k + (i + 1))) kind (many - (i + 1)) = false from HS.out)
          go_wp2_with fail
          go_round
          case rel => exact ⟨i + 1, by omega, by omega, by go_num, HG.out⟩
          case measure => simp [intOf]; omega
        · have g0 : (p != 0) = true := by simpa using h0
          go_wp2_with fail
          go_ret2
          exact ⟨rfl, rfl⟩
      · go_wp2_with fail
        go_ret2
        exact ⟨rfl, rfl⟩
    · obtain rfl : i = many := by omega
      have HG := Lib.hid (show tryF (c.drop (k + i)) kind 0 = false by rw [← hr.out, Nat.sub_self])
      clear hr
      by_cases hn0 : k + i < n
      · obtain ⟨ad, x, rfl, hab, hx, hc0, hc1⟩ := H.out.at_ hn0
        obtain ⟨p, v⟩ := x
        have gp : (p != kind) = true := by
          have := HG.out
          rw [drop_at hx] at this
          simpa [tryF] using this
        simp only at hc0 hc1
        go_wp2_with fail
        go_ret2
        exact ⟨rfl, rfl⟩
      · go_wp2_with fail
        go_ret2
        exact ⟨rfl, rfl⟩
end Go.Proofs.YtebjpmmgdkepjaaGreatDoor
/-
  slices.Repeat of a list of one number: a row of so many.
-/
namespace Go.Proofs.YtebjpmmgdkepjaaGreatDoor
open Go.RowKit

/-- q cells done of m -/
def repCells (m q : Nat) (v : Int) : List Value := List.replicate q (i64 v) ++ List.replicate (m - q) (i64 0)
theorem repCells_len {m q : Nat} {v : Int} (h : q ≤ m) : (repCells m q v).length = m := by simp [repCells]; omega
theorem repCells_splice {m q d : Nat} {v : Int} (_h : q + d ≤ m) : splice (repCells m q v) q (List.replicate d (i64 v)) = repCells m (q + d) v := by
  unfold splice repCells
  rw [List.take_left' (by simp), List.length_replicate, List.drop_append, List.length_replicate, show q + d - q = d by omega, List.drop_eq_nil_of_le (by simp), List.nil_append, List.drop_replicate, ← List.append_assoc, List.replicate_append_replicate, show m - q - d = m - (q + d) by omega]
theorem repCells_full {m : Nat} {v : Int} : repCells m m v = (List.replicate m v).map i64 := by simp [repCells]
theorem copy_run {P : Program} (dT sT ty elem : TypeId) (hu : P.underlying dT = some (.slice elem)) (hsz : (P.info? elem).map (·.size) = some 1) (g off dLen dCap : Nat) (ad : Addr) (sLen sCap : Nat) (cur : List Value) (t : TypeId) (w : World) (hg : w.heap[g]? = some (.cells cur.toArray t (0, 0)))
    (cs : List Value) (hn : cs.length = Nat.min sLen dLen) (hsrc : ∀ j v, cs[j]? = some v → w.cell? (ad.add j) = some v) (hfit : off + cs.length ≤ cur.length) (h1 : ∀ v ∈ cs, v.oneCell' = true) (B : Nat) (w0 : World) (hb : Below B w0 w) (hBg : B ≤ g) :
    ∃ w', (Builtin.copy_ #[dT, sT] ty #[.slice (some ⟨g, off, none⟩) dLen dCap, .slice (some ad) sLen sCap]).run P w = .ok (.int .i64 cs.length) w' ∧ w'.heap[g]? = some (.cells (splice cur off cs).toArray t (0, 0)) ∧ Below B w0 w' :=
  ⟨_, run_copy_row (P := P) w dT sT ty elem g off dLen dCap ad sLen sCap cur.toArray t cs hu hsz hg hn hsrc (by simpa using hfit) h1, by simpa [splice] using setRow_heap w g _ _ t _ hg, below_setRow hb hBg _⟩
set_option maxHeartbeats 4000000 in
theorem mul1_c (m : Nat) (hm : m ≤ 11) (w : World) : Calls Tryz.prog 135 #[.int .u64 1, .int .u64 m] w fun e w' => e = .returned (.tuple #[.int .u64 0, .int .u64 m]) ∧ w = w' := by
  have h : m = 0 ∨ m = 1 ∨ m = 2 ∨ m = 3 ∨ m = 4 ∨ m = 5 ∨ m = 6 ∨ m = 7 ∨ m = 8 ∨ m = 9 ∨ m = 10 ∨ m = 11 := by omega
  rcases h with rfl | rfl | rfl | rfl | rfl | rfl | rfl | rfl | rfl | rfl | rfl | rfl
  all_goals
    go_enter Tryz.func135, Tryz.ntmps135
    go_wp2
    go_ret2
    exact ⟨rfl, rfl⟩
set_option maxHeartbeats 4000000 in
set_option maxRecDepth 100000 in
theorem repeatI_c (ad : Addr) (c0 : Nat) (v : Int) (m : Nat) (w : World) (hv : w.cell? ad = some (i64 v)) (_hab : ad.block < w.heap.size) (hm : 1 ≤ m ∧ m ≤ 11) :
    Calls Tryz.prog 197 #[.slice (some ad) 1 c0, .int .i64 m] w fun e w' => ∃ g, e = .returned (.slice (some ⟨g, 0, none⟩) m m) ∧ Wr w' w.heap.size w'.heap.size (some ⟨g, 0, none⟩) m ((List.replicate m v).map i64) ∧ Below w.heap.size w w' := by
  have k1 : decide ((m : Int) < 0) = false := decide_eq_false (by omega)
  have k2 : IntKind.u64.wrap (m : Int) = (m : Int) := by rw [IntKind.wrap]; simp [IntKind.bits]; omega
  have hmk : ∀ w, (Instr.makeSlice 29 (.int .i64 m) (.int .i64 m)).run Tryz.prog w = .ok (.slice (some ⟨w.heap.size, 0, none⟩) m m) (w.alloc (.cells (Array.replicate m (.int .i64 0)) 2)) := fun w => run_mk (P := Tryz.prog) 29 2 (.int .i64 0) 8 Tryz.underlying29 info_i64 rfl .i64 .i64 m m (by omega) (by omega) (by omega) w
  go_enter Tryz.func197, Tryz.ntmps197
  clear k1
  go_wp2_with fail
  refine (mul1_c m (by omega) _).mono ?_
  rintro e w' ⟨rfl, rfl⟩
  have k3 : IntKind.i64.wrap (m : Int) = (m : Int) := IntWalk.i64_in _ (by omega)
  have k4 : decide ((9223372036854775807 : Int) < (m : Int)) = false := decide_eq_false (by omega)
  have HB0 := Lib.hid (show (w.alloc (.cells (Array.replicate m (.int .i64 0)) 2)).heap[w.heap.size]? = some (.cells (repCells m 0 v).toArray 2 (0, 0)) by
    rw [heap_alloc_new]; simp [repCells])
  have H1 := Lib.hid (show (repCells m 0 v).length = m from repCells_len (by omega))
  obtain ⟨w2, hcp, HG2, hB2⟩ := copy_run (P := Tryz.prog) 29 29 3 2 Tryz.underlying29 (by kernel_rfl) w.heap.size 0 m m ad 1 c0 (repCells m 0 v) 2 (w.alloc (.cells (Array.replicate m (.int .i64 0)) 2)) HB0.out [i64 v] (show 1 = min 1 m by omega)
    (fun j u hj => by cases j with | zero => simp at hj; subst hj; exact keepa _ hv | succ j => simp at hj) (by rw [H1.out]; simp; omega) (by intro u hu; simp at hu; subst hu; rfl) w.heap.size w (below_size.alloc (Nat.le_refl _) _) (Nat.le_refl _)
  have G2 := Lib.hid (show w2.heap[w.heap.size]? = some (.cells (repCells m 1 v).toArray 2 (0, 0)) by rw [HG2]; congr 2; exact congrArg List.toArray (repCells_splice (d := 1) (by omega)))
  have B2 := Lib.hid hB2
  clear hv HG2 hB2
  clear k2 k3 k4 HB0 H1
  go_wp2_with fail
  clear hmk hcp
  go_loopw [8] (fun qv wr => ∃ q : Nat, 1 ≤ q ∧ q ≤ m ∧ qv = .int .i64 q ∧ Hid (wr.heap[w.heap.size]? = some (.cells (repCells m q v).toArray 2 (0, 0))) ∧ Below w.heap.size w wr) (fun qv _ => m - (intOf qv).toNat)
  case atStart => exact ⟨1, by omega, by omega, rfl, G2.out, B2.out⟩
  case round =>
    obtain ⟨q, hq1, hq, rfl, hG, hb⟩ := hrel
    have HB := Lib.hid hb
    have hwz := hb.size
    have hlt0 : w.heap.size < wr.heap.size := Blk.lt (show Blk wr w.heap.size 2 _ from hG.out)
    clear hb
    by_cases hlt : q < m
    · obtain ⟨d, hd⟩ : ∃ d, Nat.min q (m - q) = d := ⟨_, rfl⟩
      have hdq : 1 ≤ d ∧ q + d ≤ m ∧ d ≤ q := by
        have : Nat.min q (m - q) = min q (m - q) := rfl
        omega
      have H1 := Lib.hid (show (repCells m q v).length = m from repCells_len (by omega))
      have hBl : Blk wr w.heap.size 2 (repCells m q v).toArray := hG.out
      obtain ⟨w3, hcp, HG3, hB3⟩ := copy_run (P := Tryz.prog) 29 29 3 2 Tryz.underlying29 (by kernel_rfl) w.heap.size q (m - q) (m - q) ⟨w.heap.size, 0, none⟩ q m (repCells m q v) 2 wr.drew hG.out (List.replicate d (i64 v)) (by simp; rw [← hd])
        (fun j u hj => by
          rw [List.getElem?_replicate] at hj
          split at hj
          · injection hj with hj; subst hj
            rw [head_add]
            show wr.cell? _ = _
            rw [hBl.cell j]
            simp only [repCells, List.getElem?_toArray]
            rw [List.getElem?_append_left (by simp; omega), List.getElem?_replicate, if_pos (by omega)]
          · cases hj) (by rw [H1.out]; simp; omega) (by intro u hu; obtain ⟨_, rfl⟩ := List.mem_replicate.1 hu; rfl) w.heap.size w (below_drew HB.out) (Nat.le_refl _)
      have G3 := Lib.hid (show w3.heap[w.heap.size]? = some (.cells (repCells m (q + d) v).toArray 2 (0, 0)) by rw [HG3]; congr 2; exact congrArg List.toArray (repCells_splice (by omega)))
      have B3 := Lib.hid hB3
      rw [List.length_replicate] at hcp
      clear HG3 hB3 hBl hd
      go_wp2_with fail
      refine Mix.wp_region_mix [0, 0, 0, 0, 0, 0, 0, 2, 0, 0] (fun w' => ∃ x : Ext wr, w' = x.w) (by kernel_rfl) (by kernel_rfl) (InExt.drew _) ?_
      repeat (first | (refine Mix.wpMix_read (by rfl) ?_; go_big_quiet_step (fail); refine wpQuiet_nil ?_) | (refine Mix.wpMix_pure (by rfl) ?_; go_big_quiet_step (fail); refine wpQuiet_nil ?_))
      refine Mix.wpMix_tail (by rfl) (fun K hK => ?_)
      go_wp2_with fail
      refine hK _ _ ?_
      clear hK K
      clear hcp
      repeat (first | (refine Mix.wpMix_read (by rfl) ?_; go_big_quiet_step (fail); refine wpQuiet_nil ?_) | (refine Mix.wpMix_pure (by rfl) ?_; go_big_quiet_step (fail); refine wpQuiet_nil ?_))
      (refine Mix.wpMix_nil ?_; try simp only [Exit.then])
      go_wp2_with fail
      go_roundw
      case rel => exact ⟨q + d, by omega, hdq.2.1, by go_num, G3.out, B3.out⟩
      case measure => simp [intOf]; omega
    · have HF := Lib.hid (show q = m by omega)
      go_wp2_with fail
      go_ret
      refine ⟨w.heap.size, rfl, ?_, HB.out⟩
      have hBl : Blk wr w.heap.size 2 (repCells m q v).toArray := hG.out
      rw [HF.out] at hBl
      exact hBl.wr (Nat.le_refl _) hlt0 (by rw [← repCells_full]; exact List.take_of_length_le (by rw [repCells_len (Nat.le_refl _)]; exact Nat.le_refl _)) (by rw [List.size_toArray, repCells_len (Nat.le_refl _)]; exact Nat.le_refl _)
end Go.Proofs.YtebjpmmgdkepjaaGreatDoor
