/-
  Parts of the proof, one behind the other: contracts of the functions that the law reaches, and plain laws.
-/
import Derived.Test.YtebjpmmgdkepjaaGreatDoorLot04
import Derived.Test.YtebjpmmgdkepjaaGreatDoorLot13
import Derived.Test.YtebjpmmgdkepjaaGreatDoorLot16
import Derived.Test.YtebjpmmgdkepjaaGreatDoorLot18
/-
  Reading, first part: the reference's division of a text and its reader of a number.
-/
namespace Go.Proofs.YtebjpmmgdkepjaaGreatDoor
open Go.RowKit

theorem bs_toListS (l : List UInt8) : (bs l).toList = l := ByteArray.toList_mk l
theorem bs_ext (s : List UInt8) (f i : Nat) : (bs s).extract f i = bs ((s.drop f).take (i - f)) := by
  apply ByteArray.ext
  rw [ByteArray.data_extract]
  apply Array.ext'
  simp [bs]
theorem run_slS (s : List UInt8) (f i : Nat) (hf : f ≤ i) (hi : i ≤ s.length) (w : World) : (Instr.slice 9 (.string (bs s)) (some (.int .i64 (f : Int))) (some (.int .i64 (i : Int))) none).run Tryz.prog w = .ok (.string (bs ((s.drop f).take (i - f)))) w := by
  rw [run_slice_string_if w 9 (bs s) .i64 .i64 (f : Int) (i : Int) Tryz.underlying9, if_pos ⟨by omega, by rw [bs_size]; omega⟩, if_pos ⟨by omega, by omega⟩]
  exact congrArg (fun x => Result.ok (Value.string x) w) (bs_ext s f i)
theorem run_slF (s : List UInt8) (f : Nat) (hf : f ≤ s.length) (w : World) : (Instr.slice 9 (.string (bs s)) (some (.int .i64 (f : Int))) none none).run Tryz.prog w = .ok (.string (bs (s.drop f))) w := by
  rw [run_slice_string_from_if w 9 (bs s) .i64 (f : Int) Tryz.underlying9, if_pos ⟨by omega, by rw [bs_size]; omega⟩]
  refine congrArg (fun x => Result.ok (Value.string x) w) ?_
  have h := bs_ext s f (bs s).size
  rw [bs_size] at h
  show (bs s).extract (f : Int).toNat (bs s).size = bs (s.drop f)
  rw [Int.toNat_natCast, bs_size, h, List.take_of_length_le (by rw [List.length_drop]; exact Nat.le_refl _)]
/-- a list of texts of the call's own -/
def StrOut (L : List (List UInt8)) (m : Nat) (w : World) (e : Ending) (w' : World) : Prop := ∃ A c, e = .returned (.slice A m c) ∧ Own w' w.heap.size 9 1 A m c (L.map fun l => .string (bs l)) ∧ Below w.heap.size w w'
theorem drop_cut {s : List UInt8} {f i : Nat} {c : UInt8} (hc : s[i]? = some c) (hf : f ≤ i) : s.drop f = (s.drop f).take (i - f) ++ c :: s.drop (i + 1) := by
  have h : (s.drop f)[i - f]? = some c := by rw [List.getElem?_drop, show f + (i - f) = i by omega]; exact hc
  have h2 := drop_at h
  rw [List.drop_drop, List.drop_drop, show f + (i - f + 1) = i + 1 by omega] at h2
  rw [show f + (i - f) = i by omega] at h2
  have h3 := List.take_append_drop (i - f) (s.drop f)
  rw [List.drop_drop, show f + (i - f) = i by omega, h2] at h3
  exact h3.symm
theorem take_cut {s : List UInt8} {f i : Nat} {b : UInt8} (hb : s[i]? = some b) (hf : f ≤ i) : (s.drop f).take (i + 1 - f) = (s.drop f).take (i - f) ++ [b] := by
  rw [show i + 1 - f = (i - f) + 1 by omega]
  exact take_at (by rw [List.getElem?_drop, show f + (i - f) = i by omega]; exact hb)
/-- what a reader of a number gives -/
def numV : Option Int → Int × Bool
  | some n => (n, true)
  | none => (0, false)
theorem numD_nil : numD [] = none := by decide
set_option maxHeartbeats 4000000 in
set_option maxRecDepth 100000 in
theorem l01Number_c (s : List UInt8) (v : Int) (q : Bool) (w : World) (hs : s.length ≤ 1048576) (hv : numV (numD s) = (v, q)) :
    Calls Tryz.prog 165 #[.string (bs s)] w fun e w' => e = .returned (.tuple #[.int .i64 v, .bool q]) ∧ w = w' := by
  obtain ⟨n, hn⟩ : ∃ n, s.length = n := ⟨_, rfl⟩
  have hz : (bs s).size = n := by rw [bs_size, hn]
  rw [hn] at hs
  have HV := Lib.hid hv; have HN := Lib.hid hn
  have NO := Lib.hid (show numD s = none → v = 0 ∧ q = false from fun h => by rw [h] at hv; injection hv with h1 h2; exact ⟨h1.symm, h2.symm⟩)
  clear hv hn
  by_cases h0 : n = 0
  · obtain ⟨rfl, rfl⟩ := NO.out (by have := HN.out; rw [h0] at this; rw [List.length_eq_zero_iff.1 this]; exact numD_nil)
    subst h0
    clear HV HN
    go_enter Tryz.func165, Tryz.ntmps165
    go_wp2_with fail
    go_ret2
    exact ⟨rfl, rfl⟩
  obtain ⟨c, r, hsr⟩ : ∃ c r, s = c :: r := by
    cases s with
    | nil => exact absurd HN.out.symm h0
    | cons c r => exact ⟨c, r, rfl⟩
  obtain ⟨x, hx⟩ : ∃ x : Int, (c.toNat : Int) = x := ⟨_, rfl⟩
  have hxb : 0 ≤ x ∧ x ≤ 255 := by have := UInt8.toNat_lt c; omega
  have hix0 : ∀ w, (Instr.index 9 (.string (bs s)) (.int .i64 0)).run Tryz.prog w = .ok (.int .u8 x) w := fun w => run_ixS (k := 0) (s := s) (c := c) (by rw [hsr]; rfl) hx w
  have hp0 : 0 < n := by omega
  clear h0
  by_cases hc : c = 45
  · have HD := Lib.hid (show numD s = (magD (s.drop 1) s).map fun (u : Nat) => -(u : Int) by rw [hsr, hc]; rfl)
    have gm : (x == 45) = true := by rw [beq_iff_eq, ← hx, hc]; rfl
    clear hsr hx hc
    have hdl : (s.drop 1).length = n - 1 := by rw [List.length_drop, HN.out]
    by_cases e0 : n = 1
    · obtain ⟨rfl, rfl⟩ := NO.out (by rw [HD.out, magD, if_pos (.inl (List.length_eq_zero_iff.1 (by rw [hdl, e0])))]; rfl)
      subst e0
      clear HV HN NO HD hdl
      go_enter Tryz.func165, Tryz.ntmps165
      go_wp2_with fail
      go_ret2
      exact ⟨rfl, rfl⟩
    have g0 : ((n : Int) == 1) = false := by rw [beq_eq_false_iff_ne]; omega
    by_cases e18 : 18 < n - 1
    · obtain ⟨rfl, rfl⟩ := NO.out (by rw [HD.out, magD, if_pos (.inr (.inl (by rw [hdl]; exact e18)))]; rfl)
      have g18 : decide ((18 : Int) < (n : Int) - 1) = true := by first | exact decide_eq_true (by omega) | exact decide_eq_false (by omega)
      clear HV HN NO HD hdl e0
      go_enter Tryz.func165, Tryz.ntmps165
      go_wp2_with fail
      go_ret2
      exact ⟨rfl, rfl⟩
    have g18 : decide ((18 : Int) < (n : Int) - 1) = false := by first | exact decide_eq_true (by omega) | exact decide_eq_false (by omega)
    obtain ⟨d, hd⟩ : ∃ d, s[1]? = some d := ⟨_, List.getElem?_eq_getElem (by rw [HN.out]; omega)⟩
    obtain ⟨y, hy⟩ : ∃ y : Int, (d.toNat : Int) = y := ⟨_, rfl⟩
    have hiy : ∀ w, (Instr.index 9 (.string (bs s)) (.int .i64 1)).run Tryz.prog w = .ok (.int .u8 y) w := fun w => run_ixS (k := 1) hd hy w
    skip
    have hdh : (s.drop 1).head? = some d := by rw [List.head?_drop]; exact hd
    have ey : (d = 48) ↔ y = 48 := ⟨fun h => by rw [← hy, h]; rfl, fun h => UInt8.toNat_inj.1 (by show d.toNat = 48; omega)⟩
    by_cases e48 : y = 48 ∧ 1 < n
    · obtain ⟨rfl, rfl⟩ := NO.out (by rw [HD.out, magD, if_pos (.inr (.inr ⟨by rw [hdh, ey.2 e48.1], by rw [HN.out]; exact e48.2⟩))]; rfl)
      obtain ⟨rfl, h1n⟩ := e48
      clear HV HN NO HD hdl e0 hd hy hdh ey e18
      go_enter Tryz.func165, Tryz.ntmps165
      go_wp2_with fail
      go_ret2
      exact ⟨rfl, rfl⟩
    have HD2 := Lib.hid (show numD s = (digsD 0 (s.drop 1)).map fun (u : Nat) => -(u : Int) by
      rw [HD.out, magD, if_neg]
      rintro (g | g | ⟨g, g2⟩)
      · exact e0 (by have := congrArg List.length g; rw [hdl] at this; simp at this; omega)
      · rw [hdl] at g; exact e18 g
      · rw [hdh] at g; injection g with g; exact e48 ⟨ey.1 g, by rw [HN.out] at g2; exact g2⟩)
    have h18 : n ≤ 18 + 1 := by omega
    have hAn : 1 ≤ n := by omega
    clear HD hdl hdh hd hy ey
    go_enter Tryz.func165, Tryz.ntmps165
    by_cases y48 : y = 48
    · have g48 : (y == 48) = true := by rw [beq_iff_eq]; exact y48
      have g1n : decide ((1 : Int) < (n : Int)) = false := decide_eq_false (by omega)
      clear e48 y48 e18 e0
      go_wp2_with fail
      go_loopw [5, 6] (fun nv iv wr => ∃ i u : Nat, 1 ≤ i ∧ i ≤ n ∧ iv = .int .i64 i ∧ nv = .int .i64 u ∧ Hid (digsD u (s.drop i) = digsD 0 (s.drop 1)) ∧ Hid (u < 10 ^ (i - 1)) ∧ wr = w) (fun _ iv _ => n - (intOf iv).toNat)
      case atStart => exact ⟨1, 0, by omega, by omega, rfl, rfl, by simp [Hid], by simp [Hid], by first | rfl | trivial⟩
      case round =>
        obtain ⟨i, u, hAi, hin, rfl, rfl, hdd, hu, rfl⟩ := hrel
        by_cases hlt : i < n
        · obtain ⟨b, hbt⟩ : ∃ b, s[i]? = some b := ⟨_, List.getElem?_eq_getElem (by rw [HN.out]; exact hlt)⟩
          obtain ⟨z, hz2⟩ : ∃ z : Int, (b.toNat : Int) = z := ⟨_, rfl⟩
          have hix := fun w => run_ixS hbt hz2 w
          have hzb : 0 ≤ z ∧ z ≤ 255 := by have := UInt8.toNat_lt b; omega
          have hub : u < 100000000000000000 := by
            have h1 := hu.out
            have h2 : 10 ^ (i - 1) ≤ 10 ^ 17 := Nat.pow_le_pow_right (by omega) (by omega)
            omega
          by_cases hdg : 48 ≤ z ∧ z ≤ 57
          · have HN2 := Lib.hid (show digsD (u * 10 + (b.toNat - 48)) (s.drop (i + 1)) = digsD 0 (s.drop 1) by rw [← hdd.out, drop_at hbt, digsD, if_pos (by omega)])
            have HU2 := Lib.hid (show u * 10 + (b.toNat - 48) < 10 ^ (i + 1 - 1) by
              have h1 := hu.out
              rw [show i + 1 - 1 = (i - 1) + 1 by omega, Nat.pow_succ]; omega)
            have v1 : IntKind.u8.wrap (z - 48) = z - 48 := by have e := IntWalk.u8_in (z - 48) (by omega); exact e
            have v2 : IntKind.i64.wrap (z - 48) = z - 48 := IntWalk.i64_in _ (by omega)
            have v3 : IntKind.i64.wrap (10 * (u : Int)) = 10 * (u : Int) := IntWalk.i64_in _ (by omega)
            have v4 : IntKind.i64.wrap (10 * (u : Int) + (z - 48)) = 10 * (u : Int) + (z - 48) := IntWalk.i64_in _ (by omega)
            have HZ := Lib.hid (show 10 * (u : Int) + (z - 48) = ((u * 10 + (b.toNat - 48) : Nat) : Int) by omega)
            have HQ := Lib.hid (show (decide (48 ≤ z) && decide (z ≤ 57)) = true by simp [hdg])
            clear hbt hz2 hdg hdd hu
            go_wp2_with (go_at_call 163; refine (l01Digit_c z true _ HQ.out).mono ?_; rintro e w' ⟨rfl, rfl⟩)
            go_roundw
            case rel => exact ⟨i + 1, u * 10 + (b.toNat - 48), by omega, by omega, by go_num, congrArg (Value.int .i64) HZ.out, HN2.out, HU2.out, by first | rfl | trivial⟩
            case measure => simp [intOf]; omega
          · have HQ := Lib.hid (show (decide (48 ≤ z) && decide (z ≤ 57)) = false by
              by_cases h9 : 48 ≤ z
              · have h8 : ¬ z ≤ 57 := fun h => hdg ⟨h9, h⟩
                rw [decide_eq_false h8, Bool.and_false]
              · rw [decide_eq_false h9, Bool.false_and])
            obtain ⟨rfl, rfl⟩ := NO.out (by rw [HD2.out, ← hdd.out, drop_at hbt, digsD, if_neg (by omega)]; rfl)
            clear hbt hz2 hdg hdd hu
            go_wp2_with (go_at_call 163; refine (l01Digit_c z false _ HQ.out).mono ?_; rintro e w' ⟨rfl, rfl⟩)
            go_ret2
            exact ⟨rfl, rfl⟩
        · obtain rfl : i = n := by omega
          have hub : u < 1000000000000000000 := by
            have h1 := hu.out
            have h2 : 10 ^ (i - 1) ≤ 10 ^ 18 := Nat.pow_le_pow_right (by omega) (by omega)
            omega
          have v5 : IntKind.i64.wrap (-(u : Int)) = -(u : Int) := IntWalk.i64_in _ (by omega)
          obtain ⟨rfl, rfl⟩ : v = -(u : Int) ∧ q = true := by
            have h1 := HV.out
            rw [HD2.out, ← hdd.out, List.drop_eq_nil_of_le (by rw [HN.out]; exact Nat.le_refl _), digsD, Option.map_some] at h1
            injection h1 with h1 h2
            exact ⟨h1.symm, h2.symm⟩
          clear hdd hu HD2 HV NO
          go_wp2_with fail
          go_ret2
          exact ⟨rfl, rfl⟩
    · have g48 : (y == 48) = false := by rw [beq_eq_false_iff_ne]; exact y48
      clear e48 y48 e18 e0
      go_wp2_with fail
      go_loopw [5, 6] (fun nv iv wr => ∃ i u : Nat, 1 ≤ i ∧ i ≤ n ∧ iv = .int .i64 i ∧ nv = .int .i64 u ∧ Hid (digsD u (s.drop i) = digsD 0 (s.drop 1)) ∧ Hid (u < 10 ^ (i - 1)) ∧ wr = w) (fun _ iv _ => n - (intOf iv).toNat)
      case atStart => exact ⟨1, 0, by omega, by omega, rfl, rfl, by simp [Hid], by simp [Hid], by first | rfl | trivial⟩
      case round =>
        obtain ⟨i, u, hAi, hin, rfl, rfl, hdd, hu, rfl⟩ := hrel
        by_cases hlt : i < n
        · obtain ⟨b, hbt⟩ : ∃ b, s[i]? = some b := ⟨_, List.getElem?_eq_getElem (by rw [HN.out]; exact hlt)⟩
          obtain ⟨z, hz2⟩ : ∃ z : Int, (b.toNat : Int) = z := ⟨_, rfl⟩
          have hix := fun w => run_ixS hbt hz2 w
          have hzb : 0 ≤ z ∧ z ≤ 255 := by have := UInt8.toNat_lt b; omega
          have hub : u < 100000000000000000 := by
            have h1 := hu.out
            have h2 : 10 ^ (i - 1) ≤ 10 ^ 17 := Nat.pow_le_pow_right (by omega) (by omega)
            omega
          by_cases hdg : 48 ≤ z ∧ z ≤ 57
          · have HN2 := Lib.hid (show digsD (u * 10 + (b.toNat - 48)) (s.drop (i + 1)) = digsD 0 (s.drop 1) by rw [← hdd.out, drop_at hbt, digsD, if_pos (by omega)])
            have HU2 := Lib.hid (show u * 10 + (b.toNat - 48) < 10 ^ (i + 1 - 1) by
              have h1 := hu.out
              rw [show i + 1 - 1 = (i - 1) + 1 by omega, Nat.pow_succ]; omega)
            have v1 : IntKind.u8.wrap (z - 48) = z - 48 := by have e := IntWalk.u8_in (z - 48) (by omega); exact e
            have v2 : IntKind.i64.wrap (z - 48) = z - 48 := IntWalk.i64_in _ (by omega)
            have v3 : IntKind.i64.wrap (10 * (u : Int)) = 10 * (u : Int) := IntWalk.i64_in _ (by omega)
            have v4 : IntKind.i64.wrap (10 * (u : Int) + (z - 48)) = 10 * (u : Int) + (z - 48) := IntWalk.i64_in _ (by omega)
            have HZ := Lib.hid (show 10 * (u : Int) + (z - 48) = ((u * 10 + (b.toNat - 48) : Nat) : Int) by omega)
            have HQ := Lib.hid (show (decide (48 ≤ z) && decide (z ≤ 57)) = true by simp [hdg])
            clear hbt hz2 hdg hdd hu
            go_wp2_with (go_at_call 163; refine (l01Digit_c z true _ HQ.out).mono ?_; rintro e w' ⟨rfl, rfl⟩)
            go_roundw
            case rel => exact ⟨i + 1, u * 10 + (b.toNat - 48), by omega, by omega, by go_num, congrArg (Value.int .i64) HZ.out, HN2.out, HU2.out, by first | rfl | trivial⟩
            case measure => simp [intOf]; omega
          · have HQ := Lib.hid (show (decide (48 ≤ z) && decide (z ≤ 57)) = false by
              by_cases h9 : 48 ≤ z
              · have h8 : ¬ z ≤ 57 := fun h => hdg ⟨h9, h⟩
                rw [decide_eq_false h8, Bool.and_false]
              · rw [decide_eq_false h9, Bool.false_and])
            obtain ⟨rfl, rfl⟩ := NO.out (by rw [HD2.out, ← hdd.out, drop_at hbt, digsD, if_neg (by omega)]; rfl)
            clear hbt hz2 hdg hdd hu
            go_wp2_with (go_at_call 163; refine (l01Digit_c z false _ HQ.out).mono ?_; rintro e w' ⟨rfl, rfl⟩)
            go_ret2
            exact ⟨rfl, rfl⟩
        · obtain rfl : i = n := by omega
          have hub : u < 1000000000000000000 := by
            have h1 := hu.out
            have h2 : 10 ^ (i - 1) ≤ 10 ^ 18 := Nat.pow_le_pow_right (by omega) (by omega)
            omega
          have v5 : IntKind.i64.wrap (-(u : Int)) = -(u : Int) := IntWalk.i64_in _ (by omega)
          obtain ⟨rfl, rfl⟩ : v = -(u : Int) ∧ q = true := by
            have h1 := HV.out
            rw [HD2.out, ← hdd.out, List.drop_eq_nil_of_le (by rw [HN.out]; exact Nat.le_refl _), digsD, Option.map_some] at h1
            injection h1 with h1 h2
            exact ⟨h1.symm, h2.symm⟩
          clear hdd hu HD2 HV NO
          go_wp2_with fail
          go_ret2
          exact ⟨rfl, rfl⟩
  · have HD := Lib.hid (show numD s = (magD (s.drop 0) s).map fun (u : Nat) => (u : Int) by
      rw [hsr, numD, tlD_pos r hc, List.drop_zero]
      have hne : ¬ ((c :: r).head? = some 45) := by simpa using hc
      simp only [if_neg hne])
    have gm : (x == 45) = false := by rw [beq_eq_false_iff_ne, ← hx]; exact fun e => hc (UInt8.toNat_inj.1 (by show c.toNat = 45; omega))
    clear hsr hx hc
    have hdl : (s.drop 0).length = n - 0 := by rw [List.length_drop, HN.out]
    by_cases e0 : n = 0
    · obtain ⟨rfl, rfl⟩ := NO.out (by rw [HD.out, magD, if_pos (.inl (List.length_eq_zero_iff.1 (by rw [hdl, e0])))]; rfl)
      subst e0
      clear HV HN NO HD hdl
      go_enter Tryz.func165, Tryz.ntmps165
      go_wp2_with fail
      go_ret2
      exact ⟨rfl, rfl⟩
    have g0 : ((n : Int) == 0) = false := by rw [beq_eq_false_iff_ne]; omega
    by_cases e18 : 18 < n - 0
    · obtain ⟨rfl, rfl⟩ := NO.out (by rw [HD.out, magD, if_pos (.inr (.inl (by rw [hdl]; exact e18)))]; rfl)
      have g18 : decide ((18 : Int) < (n : Int)) = true := by first | exact decide_eq_true (by omega) | exact decide_eq_false (by omega)
      clear HV HN NO HD hdl e0
      go_enter Tryz.func165, Tryz.ntmps165
      go_wp2_with fail
      go_ret2
      exact ⟨rfl, rfl⟩
    have g18 : decide ((18 : Int) < (n : Int)) = false := by first | exact decide_eq_true (by omega) | exact decide_eq_false (by omega)
    obtain ⟨d, hd⟩ : ∃ d, s[0]? = some d := ⟨_, List.getElem?_eq_getElem (by rw [HN.out]; omega)⟩
    obtain ⟨y, hy⟩ : ∃ y : Int, (d.toNat : Int) = y := ⟨_, rfl⟩
    have hiy : ∀ w, (Instr.index 9 (.string (bs s)) (.int .i64 0)).run Tryz.prog w = .ok (.int .u8 y) w := fun w => run_ixS (k := 0) hd hy w
    obtain rfl : y = x := by
      have h9 := (hix0 w).symm.trans (hiy w)
      injection h9 with h9 _
      injection h9 with _ h9
      exact h9.symm
    have hdh : (s.drop 0).head? = some d := by rw [List.head?_drop]; exact hd
    have ey : (d = 48) ↔ y = 48 := ⟨fun h => by rw [← hy, h]; rfl, fun h => UInt8.toNat_inj.1 (by show d.toNat = 48; omega)⟩
    by_cases e48 : y = 48 ∧ 1 < n
    · obtain ⟨rfl, rfl⟩ := NO.out (by rw [HD.out, magD, if_pos (.inr (.inr ⟨by rw [hdh, ey.2 e48.1], by rw [HN.out]; exact e48.2⟩))]; rfl)
      obtain ⟨rfl, h1n⟩ := e48
      clear HV HN NO HD hdl e0 hd hy hdh ey e18
      go_enter Tryz.func165, Tryz.ntmps165
      go_wp2_with fail
      go_ret2
      exact ⟨rfl, rfl⟩
    have HD2 := Lib.hid (show numD s = (digsD 0 (s.drop 0)).map fun (u : Nat) => (u : Int) by
      rw [HD.out, magD, if_neg]
      rintro (g | g | ⟨g, g2⟩)
      · exact e0 (by have := congrArg List.length g; rw [hdl] at this; simp at this; omega)
      · rw [hdl] at g; exact e18 g
      · rw [hdh] at g; injection g with g; exact e48 ⟨ey.1 g, by rw [HN.out] at g2; exact g2⟩)
    have h18 : n ≤ 18 + 0 := by omega
    have hAn : 0 ≤ n := by omega
    clear HD hdl hdh hd hy ey
    go_enter Tryz.func165, Tryz.ntmps165
    by_cases y48 : y = 48
    · have g48 : (y == 48) = true := by rw [beq_iff_eq]; exact y48
      have g1n : decide ((1 : Int) < (n : Int)) = false := decide_eq_false (by omega)
      clear e48 y48 e18 e0
      go_wp2_with fail
      go_loopw [5, 6] (fun nv iv wr => ∃ i u : Nat, 0 ≤ i ∧ i ≤ n ∧ iv = .int .i64 i ∧ nv = .int .i64 u ∧ Hid (digsD u (s.drop i) = digsD 0 (s.drop 0)) ∧ Hid (u < 10 ^ (i - 0)) ∧ wr = w) (fun _ iv _ => n - (intOf iv).toNat)
      case atStart => exact ⟨0, 0, by omega, by omega, rfl, rfl, by simp [Hid], by simp [Hid], by first | rfl | trivial⟩
      case round =>
        obtain ⟨i, u, hAi, hin, rfl, rfl, hdd, hu, rfl⟩ := hrel
        by_cases hlt : i < n
        · obtain ⟨b, hbt⟩ : ∃ b, s[i]? = some b := ⟨_, List.getElem?_eq_getElem (by rw [HN.out]; exact hlt)⟩
          obtain ⟨z, hz2⟩ : ∃ z : Int, (b.toNat : Int) = z := ⟨_, rfl⟩
          have hix := fun w => run_ixS hbt hz2 w
          have hzb : 0 ≤ z ∧ z ≤ 255 := by have := UInt8.toNat_lt b; omega
          have hub : u < 100000000000000000 := by
            have h1 := hu.out
            have h2 : 10 ^ (i - 0) ≤ 10 ^ 17 := Nat.pow_le_pow_right (by omega) (by omega)
            omega
          by_cases hdg : 48 ≤ z ∧ z ≤ 57
          · have HN2 := Lib.hid (show digsD (u * 10 + (b.toNat - 48)) (s.drop (i + 1)) = digsD 0 (s.drop 0) by rw [← hdd.out, drop_at hbt, digsD, if_pos (by omega)])
            have HU2 := Lib.hid (show u * 10 + (b.toNat - 48) < 10 ^ (i + 1 - 0) by
              have h1 := hu.out
              rw [show i + 1 - 0 = (i - 0) + 1 by omega, Nat.pow_succ]; omega)
            have v1 : IntKind.u8.wrap (z - 48) = z - 48 := by have e := IntWalk.u8_in (z - 48) (by omega); exact e
            have v2 : IntKind.i64.wrap (z - 48) = z - 48 := IntWalk.i64_in _ (by omega)
            have v3 : IntKind.i64.wrap (10 * (u : Int)) = 10 * (u : Int) := IntWalk.i64_in _ (by omega)
            have v4 : IntKind.i64.wrap (10 * (u : Int) + (z - 48)) = 10 * (u : Int) + (z - 48) := IntWalk.i64_in _ (by omega)
            have HZ := Lib.hid (show 10 * (u : Int) + (z - 48) = ((u * 10 + (b.toNat - 48) : Nat) : Int) by omega)
            have HQ := Lib.hid (show (decide (48 ≤ z) && decide (z ≤ 57)) = true by simp [hdg])
            clear hbt hz2 hdg hdd hu
            go_wp2_with (go_at_call 163; refine (l01Digit_c z true _ HQ.out).mono ?_; rintro e w' ⟨rfl, rfl⟩)
            go_roundw
            case rel => exact ⟨i + 1, u * 10 + (b.toNat - 48), by omega, by omega, by go_num, congrArg (Value.int .i64) HZ.out, HN2.out, HU2.out, by first | rfl | trivial⟩
            case measure => simp [intOf]; omega
          · have HQ := Lib.hid (show (decide (48 ≤ z) && decide (z ≤ 57)) = false by
              by_cases h9 : 48 ≤ z
              · have h8 : ¬ z ≤ 57 := fun h => hdg ⟨h9, h⟩
                rw [decide_eq_false h8, Bool.and_false]
              · rw [decide_eq_false h9, Bool.false_and])
            obtain ⟨rfl, rfl⟩ := NO.out (by rw [HD2.out, ← hdd.out, drop_at hbt, digsD, if_neg (by omega)]; rfl)
            clear hbt hz2 hdg hdd hu
            go_wp2_with (go_at_call 163; refine (l01Digit_c z false _ HQ.out).mono ?_; rintro e w' ⟨rfl, rfl⟩)
            go_ret2
            exact ⟨rfl, rfl⟩
        · obtain rfl : i = n := by omega
          have hub : u < 1000000000000000000 := by
            have h1 := hu.out
            have h2 : 10 ^ (i - 0) ≤ 10 ^ 18 := Nat.pow_le_pow_right (by omega) (by omega)
            omega
          have v5 : IntKind.i64.wrap (-(u : Int)) = -(u : Int) := IntWalk.i64_in _ (by omega)
          obtain ⟨rfl, rfl⟩ : v = (u : Int) ∧ q = true := by
            have h1 := HV.out
            rw [HD2.out, ← hdd.out, List.drop_eq_nil_of_le (by rw [HN.out]; exact Nat.le_refl _), digsD, Option.map_some] at h1
            injection h1 with h1 h2
            exact ⟨h1.symm, h2.symm⟩
          clear hdd hu HD2 HV NO
          go_wp2_with fail
          go_ret2
          exact ⟨rfl, rfl⟩
    · have g48 : (y == 48) = false := by rw [beq_eq_false_iff_ne]; exact y48
      clear e48 y48 e18 e0
      go_wp2_with fail
      go_loopw [5, 6] (fun nv iv wr => ∃ i u : Nat, 0 ≤ i ∧ i ≤ n ∧ iv = .int .i64 i ∧ nv = .int .i64 u ∧ Hid (digsD u (s.drop i) = digsD 0 (s.drop 0)) ∧ Hid (u < 10 ^ (i - 0)) ∧ wr = w) (fun _ iv _ => n - (intOf iv).toNat)
      case atStart => exact ⟨0, 0, by omega, by omega, rfl, rfl, by simp [Hid], by simp [Hid], by first | rfl | trivial⟩
      case round =>
        obtain ⟨i, u, hAi, hin, rfl, rfl, hdd, hu, rfl⟩ := hrel
        by_cases hlt : i < n
        · obtain ⟨b, hbt⟩ : ∃ b, s[i]? = some b := ⟨_, List.getElem?_eq_getElem (by rw [HN.out]; exact hlt)⟩
          obtain ⟨z, hz2⟩ : ∃ z : Int, (b.toNat : Int) = z := ⟨_, rfl⟩
          have hix := fun w => run_ixS hbt hz2 w
          have hzb : 0 ≤ z ∧ z ≤ 255 := by have := UInt8.toNat_lt b; omega
          have hub : u < 100000000000000000 := by
            have h1 := hu.out
            have h2 : 10 ^ (i - 0) ≤ 10 ^ 17 := Nat.pow_le_pow_right (by omega) (by omega)
            omega
          by_cases hdg : 48 ≤ z ∧ z ≤ 57
          · have HN2 := Lib.hid (show digsD (u * 10 + (b.toNat - 48)) (s.drop (i + 1)) = digsD 0 (s.drop 0) by rw [← hdd.out, drop_at hbt, digsD, if_pos (by omega)])
            have HU2 := Lib.hid (show u * 10 + (b.toNat - 48) < 10 ^ (i + 1 - 0) by
              have h1 := hu.out
              rw [show i + 1 - 0 = (i - 0) + 1 by omega, Nat.pow_succ]; omega)
            have v1 : IntKind.u8.wrap (z - 48) = z - 48 := by have e := IntWalk.u8_in (z - 48) (by omega); exact e
            have v2 : IntKind.i64.wrap (z - 48) = z - 48 := IntWalk.i64_in _ (by omega)
            have v3 : IntKind.i64.wrap (10 * (u : Int)) = 10 * (u : Int) := IntWalk.i64_in _ (by omega)
            have v4 : IntKind.i64.wrap (10 * (u : Int) + (z - 48)) = 10 * (u : Int) + (z - 48) := IntWalk.i64_in _ (by omega)
            have HZ := Lib.hid (show 10 * (u : Int) + (z - 48) = ((u * 10 + (b.toNat - 48) : Nat) : Int) by omega)
            have HQ := Lib.hid (show (decide (48 ≤ z) && decide (z ≤ 57)) = true by simp [hdg])
            clear hbt hz2 hdg hdd hu
            go_wp2_with (go_at_call 163; refine (l01Digit_c z true _ HQ.out).mono ?_; rintro e w' ⟨rfl, rfl⟩)
            go_roundw
            case rel => exact ⟨i + 1, u * 10 + (b.toNat - 48), by omega, by omega, by go_num, congrArg (Value.int .i64) HZ.out, HN2.out, HU2.out, by first | rfl | trivial⟩
            case measure => simp [intOf]; omega
          · have HQ := Lib.hid (show (decide (48 ≤ z) && decide (z ≤ 57)) = false by
              by_cases h9 : 48 ≤ z
              · have h8 : ¬ z ≤ 57 := fun h => hdg ⟨h9, h⟩
                rw [decide_eq_false h8, Bool.and_false]
              · rw [decide_eq_false h9, Bool.false_and])
            obtain ⟨rfl, rfl⟩ := NO.out (by rw [HD2.out, ← hdd.out, drop_at hbt, digsD, if_neg (by omega)]; rfl)
            clear hbt hz2 hdg hdd hu
            go_wp2_with (go_at_call 163; refine (l01Digit_c z false _ HQ.out).mono ?_; rintro e w' ⟨rfl, rfl⟩)
            go_ret2
            exact ⟨rfl, rfl⟩
        · obtain rfl : i = n := by omega
          have hub : u < 1000000000000000000 := by
            have h1 := hu.out
            have h2 : 10 ^ (i - 0) ≤ 10 ^ 18 := Nat.pow_le_pow_right (by omega) (by omega)
            omega
          have v5 : IntKind.i64.wrap (-(u : Int)) = -(u : Int) := IntWalk.i64_in _ (by omega)
          obtain ⟨rfl, rfl⟩ : v = (u : Int) ∧ q = true := by
            have h1 := HV.out
            rw [HD2.out, ← hdd.out, List.drop_eq_nil_of_le (by rw [HN.out]; exact Nat.le_refl _), digsD, Option.map_some] at h1
            injection h1 with h1 h2
            exact ⟨h1.symm, h2.symm⟩
          clear hdd hu HD2 HV NO
          go_wp2_with fail
          go_ret2
          exact ⟨rfl, rfl⟩
end Go.Proofs.YtebjpmmgdkepjaaGreatDoor
/-
  Reading lambda terms in plain Lean: what both readers give, on the texts that occur. Nothing of the program.
-/
namespace Go.Proofs.YtebjpmmgdkepjaaGreatDoor
open Go.RowKit

def isDg (c : UInt8) : Bool := decide (48 ≤ c.toNat) && decide (c.toNat ≤ 57)
/-- how many digits a text begins with -/
def dgN : List UInt8 → Nat
  | [] => 0
  | c :: s => if isDg c = true then dgN s + 1 else 0
theorem dgN_le : ∀ s : List UInt8, dgN s ≤ s.length
  | [] => Nat.le_refl _
  | c :: s => by
    rw [dgN]; split
    · have := dgN_le s; simp; omega
    · simp
/-- the reference's reader -/
def rdS : Nat → List UInt8 → LT → LT
  | 0, _, out => out
  | _ + 1, [], out => out
  | f + 1, c :: s, out => if 400 < out.length then out else if c = 94 then rdS f s (out ++ [(1, 0)]) else if c = 40 then rdS f s (out ++ [(2, 0)]) else if isDg c = true then
      (match numD ((c :: s).take (dgN (c :: s))) with
      | none => []
      | some n => rdS f ((c :: s).drop (dgN (c :: s))) (out ++ [(0, n)]))
    else rdS f s out
/-- the program's reader -/
def rdI : Nat → List UInt8 → LT → LT
  | 0, _, out => out
  | _ + 1, [], out => out
  | f + 1, c :: s, out => if 400 < out.length then out else if c = 40 then rdI f s (out ++ [(2, 0)]) else if c = 32 ∨ c = 41 then rdI f s out else if c = 94 then rdI f s (out ++ [(1, 0)]) else
      (match numD ((c :: s).take (dgN (c :: s))) with
      | none => []
      | some n => rdI f ((c :: s).drop (dgN (c :: s))) (out ++ [(0, n)]))
/-- the text of the first term, and what is behind it -/
def txL : Nat → LT → List UInt8 × LT
  | 0, r => ([], r)
  | _ + 1, [] => ([], [])
  | f + 1, x :: r => if x.1 = 0 then (Lib.itoa x.2, r) else if x.1 = 1 then (94 :: (txL f r).1, (txL f r).2) else
      (40 :: ((txL f r).1 ++ 32 :: ((txL f (txL f r).2).1 ++ [41])), (txL f (txL f r).2).2)
def sucTx : List UInt8 := [94, 94, 94, 40, 49, 32, 40, 40, 50, 32, 49, 41, 32, 48, 41, 41]
def falTx : List UInt8 := [94, 94, 48]
theorem rdS_suc : rdS 16 sucTx [] = sucLm := by decide
theorem rdS_fal : rdS 3 falTx [] = falLm := by decide
theorem rdI_suc : rdI 16 sucTx [] = sucLm := by decide
theorem rdI_fal : rdI 3 falTx [] = falLm := by decide
theorem txL_suc : txL 10 sucLm = (sucTx, []) := by decide +kernel
theorem txL_fal : txL 3 falLm = (falTx, []) := by decide +kernel
end Go.Proofs.YtebjpmmgdkepjaaGreatDoor
/-
  Functions as terms: the reference's reader of a term's text.
-/
namespace Go.Proofs.YtebjpmmgdkepjaaGreatDoor
open Go.RowKit

theorem isDg_of {c : UInt8} {x : Int} (hx : (c.toNat : Int) = x) : isDg c = (decide (48 ≤ x) && decide (x ≤ 57)) := by
  subst hx
  rw [isDg]
  congr 1
  · exact decide_eq_decide.2 (by omega)
  · exact decide_eq_decide.2 (by omega)
theorem dgN_at {s : List UInt8} {k : Nat} {c : UInt8} (h : s[k]? = some c) : dgN (s.drop k) = if isDg c = true then dgN (s.drop (k + 1)) + 1 else 0 := by rw [drop_at h, dgN]
set_option maxHeartbeats 1000000 in
theorem l12Digits_c (s : List UInt8) (k z : Nat) (w : World) (hs : s.length ≤ 1048576) (hk : k ≤ s.length) (hz : k + dgN (s.drop k) = z) : Calls Tryz.prog 164 #[.string (bs s), .int .i64 k] w fun e w' => e = .returned (.int .i64 z) ∧ w = w' := by
  obtain ⟨n, hn⟩ : ∃ n, s.length = n := ⟨_, rfl⟩
  have hzz : (bs s).size = n := by rw [bs_size, hn]
  rw [hn] at hs hk
  have HN := Lib.hid hn; have HZ := Lib.hid hz
  clear hn hz
  go_enter Tryz.func164, Tryz.ntmps164
  go_wp2_with fail
  go_loop [1] (fun iv => ∃ i : Nat, i ≤ n ∧ iv = .int .i64 i ∧ Hid (i + dgN (s.drop i) = z)) (fun iv => n - (intOf iv).toNat)
  case atStart => exact ⟨k, hk, rfl, HZ.out⟩
  case round =>
    obtain ⟨i, hi, rfl, hr⟩ := hrel
    by_cases hlt : i < n
    · obtain ⟨b, hbt⟩ : ∃ b, s[i]? = some b := ⟨_, List.getElem?_eq_getElem (by rw [HN.out]; exact hlt)⟩
      obtain ⟨x, hx⟩ : ∃ x : Int, (b.toNat : Int) = x := ⟨_, rfl⟩
      have hix := fun w => run_ixS hbt hx w
      have HD := Lib.hid (dgN_at hbt)
      cases hq : isDg b
      · have HQ := Lib.hid (show (decide (48 ≤ x) && decide (x ≤ 57)) = false by rw [← isDg_of hx]; exact hq)
        have HG := Lib.hid (show i = z by have h1 := hr.out; rw [HD.out, hq, if_neg (by simp)] at h1; omega)
        clear hbt hx hr
        go_wp2_with (go_at_call 163; refine (l01Digit_c x false _ HQ.out).mono ?_; rintro e w' ⟨rfl, rfl⟩)
        go_ret
        exact ⟨by rw [← HG.out]; rfl, rfl⟩
      · have HQ := Lib.hid (show (decide (48 ≤ x) && decide (x ≤ 57)) = true by rw [← isDg_of hx]; exact hq)
        have HG := Lib.hid (show i + 1 + dgN (s.drop (i + 1)) = z by have h1 := hr.out; rw [HD.out, hq, if_pos rfl] at h1; omega)
        clear hbt hx hr
        go_wp2_with (go_at_call 163; refine (l01Digit_c x true _ HQ.out).mono ?_; rintro e w' ⟨rfl, rfl⟩)
        go_round
        case rel => exact ⟨i + 1, by omega, by go_num, HG.out⟩
        case measure => simp [intOf]; omega
    · have HG := Lib.hid (show i = z by
        have h1 := hr.out
        rw [List.drop_eq_nil_of_le (by rw [HN.out]; omega)] at h1
        exact h1)
      clear hr
      go_wp2_with fail
      go_ret
      exact ⟨by rw [← HG.out]; rfl, rfl⟩
theorem rdS_nil (f : Nat) (out : LT) : rdS f [] out = out := by cases f <;> rfl
theorem rdS_full {f : Nat} {c : UInt8} {s : List UInt8} {out : LT} (h : 400 < out.length) : rdS (f + 1) (c :: s) out = out := by rw [rdS, if_pos h]
theorem rdS_abs {f : Nat} {c : UInt8} {s : List UInt8} {out : LT} (h : ¬ 400 < out.length) (hc : c = 94) : rdS (f + 1) (c :: s) out = rdS f s (out ++ [(1, 0)]) := by rw [rdS, if_neg h, if_pos hc]
theorem rdS_app {f : Nat} {c : UInt8} {s : List UInt8} {out : LT} (h : ¬ 400 < out.length) (h1 : c ≠ 94) (hc : c = 40) : rdS (f + 1) (c :: s) out = rdS f s (out ++ [(2, 0)]) := by rw [rdS, if_neg h, if_neg h1, if_pos hc]
theorem rdS_no {f : Nat} {c : UInt8} {s : List UInt8} {out : LT} (h : ¬ 400 < out.length) (h1 : c ≠ 94) (h2 : c ≠ 40) (h3 : isDg c = true) (h4 : numD ((c :: s).take (dgN (c :: s))) = none) : rdS (f + 1) (c :: s) out = [] := by rw [rdS, if_neg h, if_neg h1, if_neg h2, if_pos h3, h4]
theorem rdS_num {f : Nat} {c : UInt8} {s : List UInt8} {out : LT} {n : Int} (h : ¬ 400 < out.length) (h1 : c ≠ 94) (h2 : c ≠ 40) (h3 : isDg c = true) (h4 : numD ((c :: s).take (dgN (c :: s))) = some n) : rdS (f + 1) (c :: s) out = rdS f ((c :: s).drop (dgN (c :: s))) (out ++ [(0, n)]) := by rw [rdS, if_neg h, if_neg h1, if_neg h2, if_pos h3, h4]
theorem rdS_skip {f : Nat} {c : UInt8} {s : List UInt8} {out : LT} (h : ¬ 400 < out.length) (h1 : c ≠ 94) (h2 : c ≠ 40) (h3 : isDg c = false) : rdS (f + 1) (c :: s) out = rdS f s out := by rw [rdS, if_neg h, if_neg h1, if_neg h2, if_neg (by rw [h3]; simp)]
set_option maxHeartbeats 4000000 in
set_option maxRecDepth 100000 in
theorem l12Read_c (s : List UInt8) (R : LT) (l : Nat) (w : World) (hs : s.length ≤ 1048576) (hR : rdS s.length s [] = R) (hl : R.length = l) : Calls Tryz.prog 123 #[.string (bs s)] w (TmOut R l w) := by
  obtain ⟨n, hn⟩ : ∃ n, s.length = n := ⟨_, rfl⟩
  have hzz : (bs s).size = n := by rw [bs_size, hn]
  rw [hn] at hs hR
  have HN := Lib.hid hn; have HR := Lib.hid hR; have HRL := Lib.hid hl
  clear hn hR hl
  go_enter Tryz.func123, Tryz.ntmps123
  go_wp2_with fail
  go_loopw [3, 4] (fun ov iv wr => ∃ (i p oc f : Nat) (O : Option Addr) (out : LT), iv = .int .i64 i ∧ ov = .slice O p oc ∧ i ≤ n ∧ n - i ≤ f ∧ p ≤ 401 ∧ Hid (out.length = p) ∧ Hid (rdS f (s.drop i) out = R) ∧ Hid (Own wr w.heap.size 62 2 O p oc (out.flatMap enc2)) ∧ Below w.heap.size w wr) (fun _ iv _ => n - (intOf iv).toNat)
  case atStart => exact ⟨0, 0, 0, n, _, [], rfl, rfl, by omega, by omega, by omega, rfl, HR.out, Own.litK (Nat.le_refl _), below_size.alloc (Nat.le_refl _) _⟩
  case round =>
    obtain ⟨i, p, oc, f, O, out, rfl, rfl, hi, hf, hp, hol, hr, hO, hb⟩ := hrel
    have HB := Lib.hid hb; have HOL := Lib.hid hol.out
    have hwz := hb.size
    by_cases hlt : i < n
    · obtain ⟨b, hbt⟩ : ∃ b, s[i]? = some b := ⟨_, List.getElem?_eq_getElem (by rw [HN.out]; exact hlt)⟩
      obtain ⟨x, hx⟩ : ∃ x : Int, (b.toNat : Int) = x := ⟨_, rfl⟩
      have hix := fun w => run_ixS hbt hx w
      obtain ⟨f', rfl⟩ : ∃ f', f = f' + 1 := ⟨f - 1, by omega⟩
      have hr2 := hr.out
      rw [drop_at hbt] at hr2
      have HB9 := Lib.hid hbt
      by_cases hp4 : 400 < p
      · have g4 : decide ((p : Int) ≤ 400) = false := decide_eq_false (by omega)
        have HG := Lib.hid (show out = R by rw [← hr2, rdS_full (by rw [HOL.out]; exact hp4)])
        clear hbt hx hr2 hb
        go_wp2_with fail
        go_ret
        have hpl : p = l := by rw [← HOL.out, HG.out, HRL.out]
        subst hpl
        rw [← HG.out]
        exact ⟨O, oc, rfl, HOL.out, hO.out.wrK, hO.out.cap, HB.out⟩
      have g4 : decide ((p : Int) ≤ 400) = true := decide_eq_true (by omega)
      have HP4 := Lib.hid (show ¬ 400 < out.length by rw [HOL.out]; exact hp4)
      by_cases h94 : b = 94
      · have g1 : (x == 94) = true := by rw [beq_iff_eq, ← hx, h94]; rfl
        have HS := Lib.hid (show rdS f' (s.drop (i + 1)) (out ++ [(1, 0)]) = R by rw [← hr2, rdS_abs HP4.out h94])
        clear hbt hx hr2 hb h94
        go_wp2_with (at_builtin; refine wp_appLam (by rfl) _ _ (by rfl) w.heap.size O p oc _ (by rfl) (by exact hO.out.alloc _) (some ⟨wr.heap.size, 0, none⟩) 1 1 [(1, 0)] (by rfl) (by exact Rd2.lit rfl rfl) (by omega) (by simp; omega) ?_; intro A1 c1 w1 own1 hb1 hk1 hg1 hz1; have E1 := Lib.hid ((HB.out.alloc hwz _).trans hb1); have O1 := Lib.hid own1; clear own1 hb1 hk1 hg1 hz1)
        go_roundw
        case rel => exact ⟨i + 1, p + 1, c1, f', A1, out ++ [(1, 0)], by go_num, rfl, by omega, by omega, by omega, by unfold Hid; rw [List.length_append, HOL.out]; rfl, HS.out, by unfold Hid; rw [List.flatMap_append]; exact O1.out, E1.out⟩
        case measure => simp [intOf]; omega
      have g1 : (x == 94) = false := by rw [beq_eq_false_iff_ne, ← hx]; exact fun e => h94 (UInt8.toNat_inj.1 (by show b.toNat = 94; omega))
      by_cases h40 : b = 40
      · have g2 : (x == 40) = true := by rw [beq_iff_eq, ← hx, h40]; rfl
        have HS := Lib.hid (show rdS f' (s.drop (i + 1)) (out ++ [(2, 0)]) = R by rw [← hr2, rdS_app HP4.out h94 h40])
        clear hbt hx hr2 hb h94 h40
        go_wp2_with (at_builtin; refine wp_appLam (by rfl) _ _ (by rfl) w.heap.size O p oc _ (by rfl) (by exact hO.out.alloc _) (some ⟨wr.heap.size, 0, none⟩) 1 1 [(2, 0)] (by rfl) (by exact Rd2.lit rfl rfl) (by omega) (by simp; omega) ?_; intro A1 c1 w1 own1 hb1 hk1 hg1 hz1; have E1 := Lib.hid ((HB.out.alloc hwz _).trans hb1); have O1 := Lib.hid own1; clear own1 hb1 hk1 hg1 hz1)
        go_roundw
        case rel => exact ⟨i + 1, p + 1, c1, f', A1, out ++ [(2, 0)], by go_num, rfl, by omega, by omega, by omega, by unfold Hid; rw [List.length_append, HOL.out]; rfl, HS.out, by unfold Hid; rw [List.flatMap_append]; exact O1.out, E1.out⟩
        case measure => simp [intOf]; omega
      have g2 : (x == 40) = false := by rw [beq_eq_false_iff_ne, ← hx]; exact fun e => h40 (UInt8.toNat_inj.1 (by show b.toNat = 40; omega))
      cases hq : isDg b
      · have HQ := Lib.hid (show (decide (48 ≤ x) && decide (x ≤ 57)) = false by rw [← isDg_of hx]; exact hq)
        have HS := Lib.hid (show rdS f' (s.drop (i + 1)) out = R by rw [← hr2, rdS_skip HP4.out h94 h40 hq])
        clear hbt hx hr2 hb h94 h40
        go_wp2_with (go_at_call 163; refine (l01Digit_c x false _ HQ.out).mono ?_; rintro e w' ⟨rfl, rfl⟩)
        go_roundw
        case rel => exact ⟨i + 1, p, oc, f', O, out, by go_num, rfl, by omega, by omega, hp, HOL.out, HS.out, hO.out, HB.out⟩
        case measure => simp [intOf]; omega
      · have HQ := Lib.hid (show (decide (48 ≤ x) && decide (x ≤ 57)) = true by rw [← isDg_of hx]; exact hq)
        obtain ⟨k, hk⟩ : ∃ k, dgN (b :: s.drop (i + 1)) = k := ⟨_, rfl⟩
        have hk1 : 1 ≤ k := by rw [← hk, dgN, if_pos hq]; omega
        have hkn : i + k ≤ n := by
          have := dgN_le (b :: s.drop (i + 1))
          rw [hk, ← drop_at hbt, List.length_drop, HN.out] at this
          omega
        obtain ⟨z, hz⟩ : ∃ z, i + k = z := ⟨_, rfl⟩
        have HDG := Lib.hid (fun (w : World) => l12Digits_c s i z w (by rw [HN.out]; exact hs) (by rw [HN.out]; omega) (by rw [drop_at hbt, hk, hz]))
        have hsl := fun w => run_slS s i z (by omega) (by rw [HN.out]; omega) w
        obtain ⟨P, hP⟩ : ∃ P, (s.drop i).take (z - i) = P := ⟨_, rfl⟩
        rw [hP] at hsl
        have HPL := Lib.hid (show P.length ≤ 1048576 by rw [← hP, List.length_take, List.length_drop, HN.out]; omega)
        have hP2 : (b :: s.drop (i + 1)).take k = P := by rw [← drop_at hbt, ← hP]; congr 1; omega
        have hdz : (b :: s.drop (i + 1)).drop k = s.drop z := by rw [← drop_at hbt, List.drop_drop, hz]
        obtain ⟨⟨v, q⟩, hv⟩ : ∃ r, numV (numD P) = r := ⟨_, rfl⟩
        have HNB := Lib.hid (fun (w : World) => l01Number_c P v q w HPL.out hv)
        cases q
        · have hnd : numD P = none := by
            cases h : numD P with
            | none => rfl
            | some y => rw [h] at hv; injection hv with _ hv; cases hv
          have HG := Lib.hid (show ([] : LT) = R by rw [← hr2, rdS_no HP4.out h94 h40 hq (by rw [hk, hP2]; exact hnd)])
          clear hbt hx hr2 hb h94 h40 hv hP hP2 hdz hnd hk
          go_wp2_with (first | (go_at_call 163; refine (l01Digit_c x true _ HQ.out).mono ?_; rintro e w' ⟨rfl, rfl⟩) | (go_at_call 164; refine (HDG.out _).mono ?_; rintro e w' ⟨rfl, rfl⟩) | (go_at_call 165; refine (HNB.out _).mono ?_; rintro e w' ⟨rfl, rfl⟩))
          go_ret
          have hl0 : l = 0 := by rw [← HRL.out, ← HG.out]; rfl
          subst hl0
          rw [← HG.out]
          exact ⟨none, 0, rfl, rfl, Wr.nil, Nat.le_refl _, HB.out⟩
        · have hnd : numD P = some v := by
            cases h : numD P with
            | none => rw [h] at hv; injection hv with _ hv; cases hv
            | some y => rw [h] at hv; injection hv with hv _; rw [hv]
          have HS := Lib.hid (show rdS f' (s.drop z) (out ++ [(0, v)]) = R by rw [← hr2, rdS_num HP4.out h94 h40 hq (by rw [hk, hP2]; exact hnd), hk, hdz])
          clear hbt hx hr2 hb h94 h40 hv hP hP2 hdz hnd hk
          go_wp2_with (first | (go_at_call 163; refine (l01Digit_c x true _ HQ.out).mono ?_; rintro e w' ⟨rfl, rfl⟩) | (go_at_call 164; refine (HDG.out _).mono ?_; rintro e w' ⟨rfl, rfl⟩) | (go_at_call 165; refine (HNB.out _).mono ?_; rintro e w' ⟨rfl, rfl⟩) | (at_builtin; refine wp_appLam (by rfl) _ _ (by rfl) w.heap.size O p oc _ (by rfl) (by exact hO.out.alloc _) (some ⟨wr.heap.size, 0, none⟩) 1 1 [(0, v)] (by rfl) (by exact Rd2.lit rfl rfl) (by omega) (by simp; omega) ?_; intro A1 c1 w1 own1 hb1 hk1' hg1 hz1; have E1 := Lib.hid ((HB.out.alloc hwz _).trans hb1); have O1 := Lib.hid own1; clear own1 hb1 hk1' hg1 hz1))
          go_roundw
          case rel => exact ⟨z, p + 1, c1, f', A1, out ++ [(0, v)], rfl, rfl, by omega, by omega, by omega, by unfold Hid; rw [List.length_append, HOL.out]; rfl, HS.out, by unfold Hid; rw [List.flatMap_append]; exact O1.out, E1.out⟩
          case measure => simp [intOf]; omega
    · have hr2 := hr.out
      rw [List.drop_eq_nil_of_le (by rw [HN.out]; omega), rdS_nil] at hr2
      have HG := Lib.hid hr2
      clear hr2 hb
      go_wp2_with fail
      go_ret
      have hpl : p = l := by rw [← HOL.out, HG.out, HRL.out]
      subst hpl
      rw [← HG.out]
      exact ⟨O, oc, rfl, HOL.out, hO.out.wrK, hO.out.cap, HB.out⟩
theorem l12Read_suc (w : World) : Calls Tryz.prog 123 #[.string (bs sucTx)] w (TmOut sucLm 10 w) := l12Read_c sucTx sucLm 10 w (by decide) rdS_suc rfl
theorem l12Read_fal (w : World) : Calls Tryz.prog 123 #[.string (bs falTx)] w (TmOut falLm 3 w) := l12Read_c falTx falLm 3 w (by decide) rdS_fal rfl
end Go.Proofs.YtebjpmmgdkepjaaGreatDoor
