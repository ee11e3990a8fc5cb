/-
  Reading, first part: the reference's division of a text and its reader of a number.
-/
import Derived.Test.YtdendllginlidaaDoorPAll
import Derived.Test.YtdendllginlidaaDoorRdS
import Derived.Test.YtdendllginlidaaDoorCTb
import Derived.Test.YtdendllginlidaaDoorApp
namespace Go.Proofs.YtdendllginlidaaDoor
open Go.RowKit

theorem bs_toListS (l : List UInt8) : (bs l).toList = l := ByteArray.toList_mk l
theorem bs_ext (s : List UInt8) (f i : Nat) : (bs s).extract f i = bs ((s.drop f).take (i - f)) := by
  apply ByteArray.ext
  rw [ByteArray.data_extract]
  apply Array.ext'
  simp [bs]
theorem run_slS (s : List UInt8) (f i : Nat) (hf : f ≤ i) (hi : i ≤ s.length) (w : World) : (Instr.slice 9 (.string (bs s)) (some (.int .i64 (f : Int))) (some (.int .i64 (i : Int))) none).run Tryd.prog w = .ok (.string (bs ((s.drop f).take (i - f)))) w := by
  rw [run_slice_string_if w 9 (bs s) .i64 .i64 (f : Int) (i : Int) Tryd.underlying9, if_pos ⟨by omega, by rw [bs_size]; omega⟩, if_pos ⟨by omega, by omega⟩]
  exact congrArg (fun x => Result.ok (Value.string x) w) (bs_ext s f i)
theorem run_slF (s : List UInt8) (f : Nat) (hf : f ≤ s.length) (w : World) : (Instr.slice 9 (.string (bs s)) (some (.int .i64 (f : Int))) none none).run Tryd.prog w = .ok (.string (bs (s.drop f))) w := by
  rw [run_slice_string_from_if w 9 (bs s) .i64 (f : Int) Tryd.underlying9, if_pos ⟨by omega, by rw [bs_size]; omega⟩]
  refine congrArg (fun x => Result.ok (Value.string x) w) ?_
  have h := bs_ext s f (bs s).size
  rw [bs_size] at h
  show (bs s).extract (f : Int).toNat (bs s).size = bs (s.drop f)
  rw [Int.toNat_natCast, bs_size, h, List.take_of_length_le (by rw [List.length_drop]; exact Nat.le_refl _)]
/-- a list of texts of the call's own -/
def StrOut (L : List (List UInt8)) (m : Nat) (w : World) (e : Ending) (w' : World) : Prop := ∃ A c, e = .returned (.slice A m c) ∧ Own w' w.heap.size 9 1 A m c (L.map fun l => .string (bs l)) ∧ Below w.heap.size w w'
theorem drop_cut {s : List UInt8} {f i : Nat} {c : UInt8} (hc : s[i]? = some c) (hf : f ≤ i) : s.drop f = (s.drop f).take (i - f) ++ c :: s.drop (i + 1) := by
  have h : (s.drop f)[i - f]? = some c := by rw [List.getElem?_drop, show f + (i - f) = i by omega]; exact hc
  have h2 := drop_at h
  rw [List.drop_drop, List.drop_drop, show f + (i - f + 1) = i + 1 by omega] at h2
  rw [show f + (i - f) = i by omega] at h2
  have h3 := List.take_append_drop (i - f) (s.drop f)
  rw [List.drop_drop, show f + (i - f) = i by omega, h2] at h3
  exact h3.symm
theorem take_cut {s : List UInt8} {f i : Nat} {b : UInt8} (hb : s[i]? = some b) (hf : f ≤ i) : (s.drop f).take (i + 1 - f) = (s.drop f).take (i - f) ++ [b] := by
  rw [show i + 1 - f = (i - f) + 1 by omega]
  exact take_at (by rw [List.getElem?_drop, show f + (i - f) = i by omega]; exact hb)
theorem info_strS : (Tryd.prog.info? 9).map (fun i => (i.zero, i.size, i.bytes)) = some (some (.string ⟨#[]⟩), 1, 16) := by kernel_rfl
set_option maxHeartbeats 2000000 in
set_option maxRecDepth 100000 in
theorem l01Split_c (s : List UInt8) (c : UInt8) (cv : Int) (hcv : cv = (c.toNat : Int)) (m : Nat) (hm : (spl c s).length = m) (w : World) (hs : s.length ≤ 1048576) :
    Calls Tryd.prog 9 #[.string (bs s), .int .u8 cv] w (StrOut (spl c s) m w) := by
  obtain ⟨n, hn⟩ : ∃ n, s.length = n := ⟨_, rfl⟩
  have hz : (bs s).size = n := by rw [bs_size, hn]
  rw [hn] at hs
  have HN := Lib.hid hn; have HCV := Lib.hid hcv; have HM := Lib.hid hm
  clear hn hcv hm
  go_enter Tryd.func9, Tryd.ntmps9
  go_wp2_with fail
  go_loopw [5, 6, 7] (fun ov fv iv wr => ∃ (i f k : Nat) (O : List (List UInt8)) (C : Option Addr) (cc : Nat), iv = .int .i64 i ∧ fv = .int .i64 f ∧ ov = .slice C k cc ∧ f ≤ i ∧ i ≤ n ∧ k ≤ f ∧ Hid (c ∉ (s.drop f).take (i - f)) ∧ Hid (spl c s = O ++ spl c (s.drop f)) ∧ Hid (Own wr w.heap.size 9 1 C k cc (O.map fun l => .string (bs l))) ∧ Below w.heap.size w wr) (fun _ _ iv _ => n - (intOf iv).toNat)
  case atStart => exact ⟨0, 0, 0, [], _, _, rfl, rfl, rfl, by omega, by omega, by omega, by simp [Hid], by simp [Hid], Own.lit (Nat.le_refl _), below_size.alloc (Nat.le_refl _) _⟩
  case round =>
    obtain ⟨i, f, k, O, C, cc, rfl, rfl, rfl, hfi, hin, hkf, hnc, hsp, hO, hb⟩ := hrel
    have HB := Lib.hid hb
    have hbz := hb.size
    by_cases hlt : i < n
    · obtain ⟨b, hbt⟩ : ∃ b, s[i]? = some b := ⟨_, List.getElem?_eq_getElem (by rw [HN.out]; exact hlt)⟩
      obtain ⟨x, hx⟩ : ∃ x : Int, (b.toNat : Int) = x := ⟨_, rfl⟩
      have hix := fun w => run_ixS hbt hx w
      by_cases hbc : b = c
      · have g1 : (x == cv) = true := by rw [beq_iff_eq, ← hx, HCV.out, hbc]
        have HP := Lib.hid (drop_cut (c := c) (by rw [← hbc]; exact hbt) hfi)
        obtain ⟨P, hP⟩ : ∃ P, (s.drop f).take (i - f) = P := ⟨_, rfl⟩
        have hsl := fun w => run_slS s f i hfi (by rw [HN.out]; omega) w
        rw [hP] at hnc HP hsl
        have HSP := Lib.hid (show spl c s = (O ++ [P]) ++ spl c (s.drop (i + 1)) by rw [hsp.out, HP.out, spl_at _ hnc.out, List.append_assoc]; rfl)
        have HMP := Lib.hid (show (O ++ [P]).map (fun l => Value.string (bs l)) = O.map (fun l => .string (bs l)) ++ [.string (bs P)] by rw [List.map_append]; rfl)
        clear hbt hx hbc hP hb hsp HP
        go_wp2_with (at_builtin; refine wp_app1 (by rfl) _ _ 30 9 (.string ⟨#[]⟩) 16 (by rfl) Tryd.underlying30 info_strS rfl w.heap.size C k cc (O.map fun l => .string (bs l)) (by rfl) (by exact hO.out.alloc _) wr.heap.size (.string (bs P)) (by rfl) (by exact new_cell _ _ _ 0) rfl (by omega) (by omega) (by simp; omega) ?_; intro g' cap w3 own3 hb3 hk3 hg3 hz3; have O3 := Lib.hid own3; have E3 := Lib.hid ((HB.out.alloc hbz _).trans hb3); clear own3 hb3 hk3 hg3 hz3)
        go_roundw
        case rel => exact ⟨i + 1, i + 1, k + 1, O ++ [P], some ⟨g', 0, none⟩, cap, by go_num, by go_num, rfl, by omega, by omega, by omega, by simp [Hid], HSP.out, by unfold Hid; rw [HMP.out]; exact O3.out, E3.out⟩
        case measure => simp [intOf]; omega
      · have g1 : (x == cv) = false := by rw [beq_eq_false_iff_ne, ← hx, HCV.out]; exact fun e => hbc (UInt8.toNat_inj.1 (by omega))
        have HNC := Lib.hid (show c ∉ (s.drop f).take (i + 1 - f) by rw [take_cut hbt hfi, List.mem_append, List.mem_singleton]; exact fun h => h.elim hnc.out fun h => hbc h.symm)
        clear hbt hx hbc hb
        go_wp2_with fail
        go_roundw
        case rel => exact ⟨i + 1, f, k, O, C, cc, by go_num, rfl, rfl, by omega, by omega, by omega, HNC.out, hsp.out, hO.out, HB.out⟩
        case measure => simp [intOf]; omega
    · obtain rfl : i = n := by omega
      have hsl := fun w => run_slF s f (by rw [HN.out]; exact hfi) w
      obtain ⟨P, hP⟩ : ∃ P, s.drop f = P := ⟨_, rfl⟩
      have htk : (s.drop f).take (i - f) = s.drop f := List.take_of_length_le (by rw [List.length_drop, HN.out]; exact Nat.le_refl _)
      rw [htk, hP] at hnc
      rw [hP] at hsl
      have HSP := Lib.hid (show spl c s = O ++ [P] by rw [hsp.out, hP, spl_none hnc.out])
      have hkl : O.length = k := by have := hO.out.1; simpa using this
      have hmk : m = k + 1 := by rw [← HM.out, HSP.out, List.length_append, hkl]; rfl
      have HMP := Lib.hid (show (spl c s).map (fun l => Value.string (bs l)) = O.map (fun l => .string (bs l)) ++ [.string (bs P)] by rw [HSP.out, List.map_append]; rfl)
      have HMK := Lib.hid hmk
      clear hP hb hsp htk hkl hmk
      go_wp2_with (at_builtin; refine wp_app1 (by rfl) _ _ 30 9 (.string ⟨#[]⟩) 16 (by rfl) Tryd.underlying30 info_strS rfl w.heap.size C k cc (O.map fun l => .string (bs l)) (by rfl) (by exact hO.out.alloc _) wr.heap.size (.string (bs P)) (by rfl) (by exact new_cell _ _ _ 0) rfl (by omega) (by omega) (by simp; omega) ?_; intro g' cap w3 own3 hb3 hk3 hg3 hz3; have O3 := Lib.hid own3; have E3 := Lib.hid ((HB.out.alloc hbz _).trans hb3); clear own3 hb3 hk3 hg3 hz3)
      go_ret
      rw [HMK.out]
      exact ⟨some ⟨g', 0, none⟩, cap, rfl, by rw [HMP.out]; exact O3.out, E3.out⟩
/-- what a reader of a number gives -/
def numV : Option Int → Int × Bool
  | some n => (n, true)
  | none => (0, false)
theorem numD_nil : numD [] = none := by decide
set_option maxHeartbeats 4000000 in
set_option maxRecDepth 100000 in
theorem l01Number_c (s : List UInt8) (v : Int) (q : Bool) (w : World) (hs : s.length ≤ 1048576) (hv : numV (numD s) = (v, q)) :
    Calls Tryd.prog 10 #[.string (bs s)] w fun e w' => e = .returned (.tuple #[.int .i64 v, .bool q]) ∧ w = w' := by
  obtain ⟨n, hn⟩ : ∃ n, s.length = n := ⟨_, rfl⟩
  have hz : (bs s).size = n := by rw [bs_size, hn]
  rw [hn] at hs
  have HV := Lib.hid hv; have HN := Lib.hid hn
  have NO := Lib.hid (show numD s = none → v = 0 ∧ q = false from fun h => by rw [h] at hv; injection hv with h1 h2; exact ⟨h1.symm, h2.symm⟩)
  clear hv hn
  by_cases h0 : n = 0
  · obtain ⟨rfl, rfl⟩ := NO.out (by have := HN.out; rw [h0] at this; rw [List.length_eq_zero_iff.1 this]; exact numD_nil)
    subst h0
    clear HV HN
    go_enter Tryd.func10, Tryd.ntmps10
    go_wp2_with fail
    go_ret2
    exact ⟨rfl, rfl⟩
  obtain ⟨c, r, hsr⟩ : ∃ c r, s = c :: r := by
    cases s with
    | nil => exact absurd HN.out.symm h0
    | cons c r => exact ⟨c, r, rfl⟩
  obtain ⟨x, hx⟩ : ∃ x : Int, (c.toNat : Int) = x := ⟨_, rfl⟩
  have hxb : 0 ≤ x ∧ x ≤ 255 := by have := UInt8.toNat_lt c; omega
  have hix0 : ∀ w, (Instr.index 9 (.string (bs s)) (.int .i64 0)).run Tryd.prog w = .ok (.int .u8 x) w := fun w => run_ixS (k := 0) (s := s) (c := c) (by rw [hsr]; rfl) hx w
  have hp0 : 0 < n := by omega
  clear h0
  by_cases hc : c = 45
  · have HD := Lib.hid (show numD s = (magD (s.drop 1) s).map fun (u : Nat) => -(u : Int) by rw [hsr, hc]; rfl)
    have gm : (x == 45) = true := by rw [beq_iff_eq, ← hx, hc]; rfl
    clear hsr hx hc
    have hdl : (s.drop 1).length = n - 1 := by rw [List.length_drop, HN.out]
    by_cases e0 : n = 1
    · obtain ⟨rfl, rfl⟩ := NO.out (by rw [HD.out, magD, if_pos (.inl (List.length_eq_zero_iff.1 (by rw [hdl, e0])))]; rfl)
      subst e0
      clear HV HN NO HD hdl
      go_enter Tryd.func10, Tryd.ntmps10
      go_wp2_with fail
      go_ret2
      exact ⟨rfl, rfl⟩
    have g0 : ((n : Int) == 1) = false := by rw [beq_eq_false_iff_ne]; omega
    by_cases e18 : 18 < n - 1
    · obtain ⟨rfl, rfl⟩ := NO.out (by rw [HD.out, magD, if_pos (.inr (.inl (by rw [hdl]; exact e18)))]; rfl)
      have g18 : decide ((18 : Int) < (n : Int) - 1) = true := by first | exact decide_eq_true (by omega) | exact decide_eq_false (by omega)
      clear HV HN NO HD hdl e0
      go_enter Tryd.func10, Tryd.ntmps10
      go_wp2_with fail
      go_ret2
      exact ⟨rfl, rfl⟩
    have g18 : decide ((18 : Int) < (n : Int) - 1) = false := by first | exact decide_eq_true (by omega) | exact decide_eq_false (by omega)
    obtain ⟨d, hd⟩ : ∃ d, s[1]? = some d := ⟨_, List.getElem?_eq_getElem (by rw [HN.out]; omega)⟩
    obtain ⟨y, hy⟩ : ∃ y : Int, (d.toNat : Int) = y := ⟨_, rfl⟩
    have hiy : ∀ w, (Instr.index 9 (.string (bs s)) (.int .i64 1)).run Tryd.prog w = .ok (.int .u8 y) w := fun w => run_ixS (k := 1) hd hy w
    skip
    have hdh : (s.drop 1).head? = some d := by rw [List.head?_drop]; exact hd
    have ey : (d = 48) ↔ y = 48 := ⟨fun h => by rw [← hy, h]; rfl, fun h => UInt8.toNat_inj.1 (by show d.toNat = 48; omega)⟩
    by_cases e48 : y = 48 ∧ 1 < n
    · obtain ⟨rfl, rfl⟩ := NO.out (by rw [HD.out, magD, if_pos (.inr (.inr ⟨by rw [hdh, ey.2 e48.1], by rw [HN.out]; exact e48.2⟩))]; rfl)
      obtain ⟨rfl, h1n⟩ := e48
      clear HV HN NO HD hdl e0 hd hy hdh ey e18
      go_enter Tryd.func10, Tryd.ntmps10
      go_wp2_with fail
      go_ret2
      exact ⟨rfl, rfl⟩
    have HD2 := Lib.hid (show numD s = (digsD 0 (s.drop 1)).map fun (u : Nat) => -(u : Int) by
      rw [HD.out, magD, if_neg]
      rintro (g | g | ⟨g, g2⟩)
      · exact e0 (by have := congrArg List.length g; rw [hdl] at this; simp at this; omega)
      · rw [hdl] at g; exact e18 g
      · rw [hdh] at g; injection g with g; exact e48 ⟨ey.1 g, by rw [HN.out] at g2; exact g2⟩)
    have h18 : n ≤ 18 + 1 := by omega
    have hAn : 1 ≤ n := by omega
    clear HD hdl hdh hd hy ey
    go_enter Tryd.func10, Tryd.ntmps10
    by_cases y48 : y = 48
    · have g48 : (y == 48) = true := by rw [beq_iff_eq]; exact y48
      have g1n : decide ((1 : Int) < (n : Int)) = false := decide_eq_false (by omega)
      clear e48 y48 e18 e0
      go_wp2_with fail
      go_loopw [5, 6] (fun nv iv wr => ∃ i u : Nat, 1 ≤ i ∧ i ≤ n ∧ iv = .int .i64 i ∧ nv = .int .i64 u ∧ Hid (digsD u (s.drop i) = digsD 0 (s.drop 1)) ∧ Hid (u < 10 ^ (i - 1)) ∧ wr = w) (fun _ iv _ => n - (intOf iv).toNat)
      case atStart => exact ⟨1, 0, by omega, by omega, rfl, rfl, by simp [Hid], by simp [Hid], by first | rfl | trivial⟩
      case round =>
        obtain ⟨i, u, hAi, hin, rfl, rfl, hdd, hu, rfl⟩ := hrel
        by_cases hlt : i < n
        · obtain ⟨b, hbt⟩ : ∃ b, s[i]? = some b := ⟨_, List.getElem?_eq_getElem (by rw [HN.out]; exact hlt)⟩
          obtain ⟨z, hz2⟩ : ∃ z : Int, (b.toNat : Int) = z := ⟨_, rfl⟩
          have hix := fun w => run_ixS hbt hz2 w
          have hzb : 0 ≤ z ∧ z ≤ 255 := by have := UInt8.toNat_lt b; omega
          have hub : u < 100000000000000000 := by
            have h1 := hu.out
            have h2 : 10 ^ (i - 1) ≤ 10 ^ 17 := Nat.pow_le_pow_right (by omega) (by omega)
            omega
          by_cases hdg : 48 ≤ z ∧ z ≤ 57
          · have HN2 := Lib.hid (show digsD (u * 10 + (b.toNat - 48)) (s.drop (i + 1)) = digsD 0 (s.drop 1) by rw [← hdd.out, drop_at hbt, digsD, if_pos (by omega)])
            have HU2 := Lib.hid (show u * 10 + (b.toNat - 48) < 10 ^ (i + 1 - 1) by
              have h1 := hu.out
              rw [show i + 1 - 1 = (i - 1) + 1 by omega, Nat.pow_succ]; omega)
            have v1 : IntKind.u8.wrap (z - 48) = z - 48 := by have e := IntWalk.u8_in (z - 48) (by omega); exact e
            have v2 : IntKind.i64.wrap (z - 48) = z - 48 := IntWalk.i64_in _ (by omega)
            have v3 : IntKind.i64.wrap (10 * (u : Int)) = 10 * (u : Int) := IntWalk.i64_in _ (by omega)
            have v4 : IntKind.i64.wrap (10 * (u : Int) + (z - 48)) = 10 * (u : Int) + (z - 48) := IntWalk.i64_in _ (by omega)
            have HZ := Lib.hid (show 10 * (u : Int) + (z - 48) = ((u * 10 + (b.toNat - 48) : Nat) : Int) by omega)
            have HQ := Lib.hid (show (decide (48 ≤ z) && decide (z ≤ 57)) = true by simp [hdg])
            clear hbt hz2 hdg hdd hu
            go_wp2_with (go_at_call 22; refine (l01Digit_c z true _ HQ.out).mono ?_; rintro e w' ⟨rfl, rfl⟩)
            go_roundw
            case rel => exact ⟨i + 1, u * 10 + (b.toNat - 48), by omega, by omega, by go_num, congrArg (Value.int .i64) HZ.out, HN2.out, HU2.out, by first | rfl | trivial⟩
            case measure => simp [intOf]; omega
          · have HQ := Lib.hid (show (decide (48 ≤ z) && decide (z ≤ 57)) = false by
              by_cases h9 : 48 ≤ z
              · have h8 : ¬ z ≤ 57 := fun h => hdg ⟨h9, h⟩
                rw [decide_eq_false h8, Bool.and_false]
              · rw [decide_eq_false h9, Bool.false_and])
            obtain ⟨rfl, rfl⟩ := NO.out (by rw [HD2.out, ← hdd.out, drop_at hbt, digsD, if_neg (by omega)]; rfl)
            clear hbt hz2 hdg hdd hu
            go_wp2_with (go_at_call 22; refine (l01Digit_c z false _ HQ.out).mono ?_; rintro e w' ⟨rfl, rfl⟩)
            go_ret2
            exact ⟨rfl, rfl⟩
        · obtain rfl : i = n := by omega
          have hub : u < 1000000000000000000 := by
            have h1 := hu.out
            have h2 : 10 ^ (i - 1) ≤ 10 ^ 18 := Nat.pow_le_pow_right (by omega) (by omega)
            omega
          have v5 : IntKind.i64.wrap (-(u : Int)) = -(u : Int) := IntWalk.i64_in _ (by omega)
          obtain ⟨rfl, rfl⟩ : v = -(u : Int) ∧ q = true := by
            have h1 := HV.out
            rw [HD2.out, ← hdd.out, List.drop_eq_nil_of_le (by rw [HN.out]; exact Nat.le_refl _), digsD, Option.map_some] at h1
            injection h1 with h1 h2
            exact ⟨h1.symm, h2.symm⟩
          clear hdd hu HD2 HV NO
          go_wp2_with fail
          go_ret2
          exact ⟨rfl, rfl⟩
    · have g48 : (y == 48) = false := by rw [beq_eq_false_iff_ne]; exact y48
      clear e48 y48 e18 e0
      go_wp2_with fail
      go_loopw [5, 6] (fun nv iv wr => ∃ i u : Nat, 1 ≤ i ∧ i ≤ n ∧ iv = .int .i64 i ∧ nv = .int .i64 u ∧ Hid (digsD u (s.drop i) = digsD 0 (s.drop 1)) ∧ Hid (u < 10 ^ (i - 1)) ∧ wr = w) (fun _ iv _ => n - (intOf iv).toNat)
      case atStart => exact ⟨1, 0, by omega, by omega, rfl, rfl, by simp [Hid], by simp [Hid], by first | rfl | trivial⟩
      case round =>
        obtain ⟨i, u, hAi, hin, rfl, rfl, hdd, hu, rfl⟩ := hrel
        by_cases hlt : i < n
        · obtain ⟨b, hbt⟩ : ∃ b, s[i]? = some b := ⟨_, List.getElem?_eq_getElem (by rw [HN.out]; exact hlt)⟩
          obtain ⟨z, hz2⟩ : ∃ z : Int, (b.toNat : Int) = z := ⟨_, rfl⟩
          have hix := fun w => run_ixS hbt hz2 w
          have hzb : 0 ≤ z ∧ z ≤ 255 := by have := UInt8.toNat_lt b; omega
          have hub : u < 100000000000000000 := by
            have h1 := hu.out
            have h2 : 10 ^ (i - 1) ≤ 10 ^ 17 := Nat.pow_le_pow_right (by omega) (by omega)
            omega
          by_cases hdg : 48 ≤ z ∧ z ≤ 57
          · have HN2 := Lib.hid (show digsD (u * 10 + (b.toNat - 48)) (s.drop (i + 1)) = digsD 0 (s.drop 1) by rw [← hdd.out, drop_at hbt, digsD, if_pos (by omega)])
            have HU2 := Lib.hid (show u * 10 + (b.toNat - 48) < 10 ^ (i + 1 - 1) by
              have h1 := hu.out
              rw [show i + 1 - 1 = (i - 1) + 1 by omega, Nat.pow_succ]; omega)
            have v1 : IntKind.u8.wrap (z - 48) = z - 48 := by have e := IntWalk.u8_in (z - 48) (by omega); exact e
            have v2 : IntKind.i64.wrap (z - 48) = z - 48 := IntWalk.i64_in _ (by omega)
            have v3 : IntKind.i64.wrap (10 * (u : Int)) = 10 * (u : Int) := IntWalk.i64_in _ (by omega)
            have v4 : IntKind.i64.wrap (10 * (u : Int) + (z - 48)) = 10 * (u : Int) + (z - 48) := IntWalk.i64_in _ (by omega)
            have HZ := Lib.hid (show 10 * (u : Int) + (z - 48) = ((u * 10 + (b.toNat - 48) : Nat) : Int) by omega)
            have HQ := Lib.hid (show (decide (48 ≤ z) && decide (z ≤ 57)) = true by simp [hdg])
            clear hbt hz2 hdg hdd hu
            go_wp2_with (go_at_call 22; refine (l01Digit_c z true _ HQ.out).mono ?_; rintro e w' ⟨rfl, rfl⟩)
            go_roundw
            case rel => exact ⟨i + 1, u * 10 + (b.toNat - 48), by omega, by omega, by go_num, congrArg (Value.int .i64) HZ.out, HN2.out, HU2.out, by first | rfl | trivial⟩
            case measure => simp [intOf]; omega
          · have HQ := Lib.hid (show (decide (48 ≤ z) && decide (z ≤ 57)) = false by
              by_cases h9 : 48 ≤ z
              · have h8 : ¬ z ≤ 57 := fun h => hdg ⟨h9, h⟩
                rw [decide_eq_false h8, Bool.and_false]
              · rw [decide_eq_false h9, Bool.false_and])
            obtain ⟨rfl, rfl⟩ := NO.out (by rw [HD2.out, ← hdd.out, drop_at hbt, digsD, if_neg (by omega)]; rfl)
            clear hbt hz2 hdg hdd hu
            go_wp2_with (go_at_call 22; refine (l01Digit_c z false _ HQ.out).mono ?_; rintro e w' ⟨rfl, rfl⟩)
            go_ret2
            exact ⟨rfl, rfl⟩
        · obtain rfl : i = n := by omega
          have hub : u < 1000000000000000000 := by
            have h1 := hu.out
            have h2 : 10 ^ (i - 1) ≤ 10 ^ 18 := Nat.pow_le_pow_right (by omega) (by omega)
            omega
          have v5 : IntKind.i64.wrap (-(u : Int)) = -(u : Int) := IntWalk.i64_in _ (by omega)
          obtain ⟨rfl, rfl⟩ : v = -(u : Int) ∧ q = true := by
            have h1 := HV.out
            rw [HD2.out, ← hdd.out, List.drop_eq_nil_of_le (by rw [HN.out]; exact Nat.le_refl _), digsD, Option.map_some] at h1
            injection h1 with h1 h2
            exact ⟨h1.symm, h2.symm⟩
          clear hdd hu HD2 HV NO
          go_wp2_with fail
          go_ret2
          exact ⟨rfl, rfl⟩
  · have HD := Lib.hid (show numD s = (magD (s.drop 0) s).map fun (u : Nat) => (u : Int) by
      rw [hsr, numD, tlD_pos r hc, List.drop_zero]
      have hne : ¬ ((c :: r).head? = some 45) := by simpa using hc
      simp only [if_neg hne])
    have gm : (x == 45) = false := by rw [beq_eq_false_iff_ne, ← hx]; exact fun e => hc (UInt8.toNat_inj.1 (by show c.toNat = 45; omega))
    clear hsr hx hc
    have hdl : (s.drop 0).length = n - 0 := by rw [List.length_drop, HN.out]
    by_cases e0 : n = 0
    · obtain ⟨rfl, rfl⟩ := NO.out (by rw [HD.out, magD, if_pos (.inl (List.length_eq_zero_iff.1 (by rw [hdl, e0])))]; rfl)
      subst e0
      clear HV HN NO HD hdl
      go_enter Tryd.func10, Tryd.ntmps10
      go_wp2_with fail
      go_ret2
      exact ⟨rfl, rfl⟩
    have g0 : ((n : Int) == 0) = false := by rw [beq_eq_false_iff_ne]; omega
    by_cases e18 : 18 < n - 0
    · obtain ⟨rfl, rfl⟩ := NO.out (by rw [HD.out, magD, if_pos (.inr (.inl (by rw [hdl]; exact e18)))]; rfl)
      have g18 : decide ((18 : Int) < (n : Int)) = true := by first | exact decide_eq_true (by omega) | exact decide_eq_false (by omega)
      clear HV HN NO HD hdl e0
      go_enter Tryd.func10, Tryd.ntmps10
      go_wp2_with fail
      go_ret2
      exact ⟨rfl, rfl⟩
    have g18 : decide ((18 : Int) < (n : Int)) = false := by first | exact decide_eq_true (by omega) | exact decide_eq_false (by omega)
    obtain ⟨d, hd⟩ : ∃ d, s[0]? = some d := ⟨_, List.getElem?_eq_getElem (by rw [HN.out]; omega)⟩
    obtain ⟨y, hy⟩ : ∃ y : Int, (d.toNat : Int) = y := ⟨_, rfl⟩
    have hiy : ∀ w, (Instr.index 9 (.string (bs s)) (.int .i64 0)).run Tryd.prog w = .ok (.int .u8 y) w := fun w => run_ixS (k := 0) hd hy w
    obtain rfl : y = x := by
      have h9 := (hix0 w).symm.trans (hiy w)
      injection h9 with h9 _
      injection h9 with _ h9
      exact h9.symm
    have hdh : (s.drop 0).head? = some d := by rw [List.head?_drop]; exact hd
    have ey : (d = 48) ↔ y = 48 := ⟨fun h => by rw [← hy, h]; rfl, fun h => UInt8.toNat_inj.1 (by show d.toNat = 48; omega)⟩
    by_cases e48 : y = 48 ∧ 1 < n
    · obtain ⟨rfl, rfl⟩ := NO.out (by rw [HD.out, magD, if_pos (.inr (.inr ⟨by rw [hdh, ey.2 e48.1], by rw [HN.out]; exact e48.2⟩))]; rfl)
      obtain ⟨rfl, h1n⟩ := e48
      clear HV HN NO HD hdl e0 hd hy hdh ey e18
      go_enter Tryd.func10, Tryd.ntmps10
      go_wp2_with fail
      go_ret2
      exact ⟨rfl, rfl⟩
    have HD2 := Lib.hid (show numD s = (digsD 0 (s.drop 0)).map fun (u : Nat) => (u : Int) by
      rw [HD.out, magD, if_neg]
      rintro (g | g | ⟨g, g2⟩)
      · exact e0 (by have := congrArg List.length g; rw [hdl] at this; simp at this; omega)
      · rw [hdl] at g; exact e18 g
      · rw [hdh] at g; injection g with g; exact e48 ⟨ey.1 g, by rw [HN.out] at g2; exact g2⟩)
    have h18 : n ≤ 18 + 0 := by omega
    have hAn : 0 ≤ n := by omega
    clear HD hdl hdh hd hy ey
    go_enter Tryd.func10, Tryd.ntmps10
    by_cases y48 : y = 48
    · have g48 : (y == 48) = true := by rw [beq_iff_eq]; exact y48
      have g1n : decide ((1 : Int) < (n : Int)) = false := decide_eq_false (by omega)
      clear e48 y48 e18 e0
      go_wp2_with fail
      go_loopw [5, 6] (fun nv iv wr => ∃ i u : Nat, 0 ≤ i ∧ i ≤ n ∧ iv = .int .i64 i ∧ nv = .int .i64 u ∧ Hid (digsD u (s.drop i) = digsD 0 (s.drop 0)) ∧ Hid (u < 10 ^ (i - 0)) ∧ wr = w) (fun _ iv _ => n - (intOf iv).toNat)
      case atStart => exact ⟨0, 0, by omega, by omega, rfl, rfl, by simp [Hid], by simp [Hid], by first | rfl | trivial⟩
      case round =>
        obtain ⟨i, u, hAi, hin, rfl, rfl, hdd, hu, rfl⟩ := hrel
        by_cases hlt : i < n
        · obtain ⟨b, hbt⟩ : ∃ b, s[i]? = some b := ⟨_, List.getElem?_eq_getElem (by rw [HN.out]; exact hlt)⟩
          obtain ⟨z, hz2⟩ : ∃ z : Int, (b.toNat : Int) = z := ⟨_, rfl⟩
          have hix := fun w => run_ixS hbt hz2 w
          have hzb : 0 ≤ z ∧ z ≤ 255 := by have := UInt8.toNat_lt b; omega
          have hub : u < 100000000000000000 := by
            have h1 := hu.out
            have h2 : 10 ^ (i - 0) ≤ 10 ^ 17 := Nat.pow_le_pow_right (by omega) (by omega)
            omega
          by_cases hdg : 48 ≤ z ∧ z ≤ 57
          · have HN2 := Lib.hid (show digsD (u * 10 + (b.toNat - 48)) (s.drop (i + 1)) = digsD 0 (s.drop 0) by rw [← hdd.out, drop_at hbt, digsD, if_pos (by omega)])
            have HU2 := Lib.hid (show u * 10 + (b.toNat - 48) < 10 ^ (i + 1 - 0) by
              have h1 := hu.out
              rw [show i + 1 - 0 = (i - 0) + 1 by omega, Nat.pow_succ]; omega)
            have v1 : IntKind.u8.wrap (z - 48) = z - 48 := by have e := IntWalk.u8_in (z - 48) (by omega); exact e
            have v2 : IntKind.i64.wrap (z - 48) = z - 48 := IntWalk.i64_in _ (by omega)
            have v3 : IntKind.i64.wrap (10 * (u : Int)) = 10 * (u : Int) := IntWalk.i64_in _ (by omega)
            have v4 : IntKind.i64.wrap (10 * (u : Int) + (z - 48)) = 10 * (u : Int) + (z - 48) := IntWalk.i64_in _ (by omega)
            have HZ := Lib.hid (show 10 * (u : Int) + (z - 48) = ((u * 10 + (b.toNat - 48) : Nat) : Int) by omega)
            have HQ := Lib.hid (show (decide (48 ≤ z) && decide (z ≤ 57)) = true by simp [hdg])
            clear hbt hz2 hdg hdd hu
            go_wp2_with (go_at_call 22; refine (l01Digit_c z true _ HQ.out).mono ?_; rintro e w' ⟨rfl, rfl⟩)
            go_roundw
            case rel => exact ⟨i + 1, u * 10 + (b.toNat - 48), by omega, by omega, by go_num, congrArg (Value.int .i64) HZ.out, HN2.out, HU2.out, by first | rfl | trivial⟩
            case measure => simp [intOf]; omega
          · have HQ := Lib.hid (show (decide (48 ≤ z) && decide (z ≤ 57)) = false by
              by_cases h9 : 48 ≤ z
              · have h8 : ¬ z ≤ 57 := fun h => hdg ⟨h9, h⟩
                rw [decide_eq_false h8, Bool.and_false]
              · rw [decide_eq_false h9, Bool.false_and])
            obtain ⟨rfl, rfl⟩ := NO.out (by rw [HD2.out, ← hdd.out, drop_at hbt, digsD, if_neg (by omega)]; rfl)
            clear hbt hz2 hdg hdd hu
            go_wp2_with (go_at_call 22; refine (l01Digit_c z false _ HQ.out).mono ?_; rintro e w' ⟨rfl, rfl⟩)
            go_ret2
            exact ⟨rfl, rfl⟩
        · obtain rfl : i = n := by omega
          have hub : u < 1000000000000000000 := by
            have h1 := hu.out
            have h2 : 10 ^ (i - 0) ≤ 10 ^ 18 := Nat.pow_le_pow_right (by omega) (by omega)
            omega
          have v5 : IntKind.i64.wrap (-(u : Int)) = -(u : Int) := IntWalk.i64_in _ (by omega)
          obtain ⟨rfl, rfl⟩ : v = (u : Int) ∧ q = true := by
            have h1 := HV.out
            rw [HD2.out, ← hdd.out, List.drop_eq_nil_of_le (by rw [HN.out]; exact Nat.le_refl _), digsD, Option.map_some] at h1
            injection h1 with h1 h2
            exact ⟨h1.symm, h2.symm⟩
          clear hdd hu HD2 HV NO
          go_wp2_with fail
          go_ret2
          exact ⟨rfl, rfl⟩
    · have g48 : (y == 48) = false := by rw [beq_eq_false_iff_ne]; exact y48
      clear e48 y48 e18 e0
      go_wp2_with fail
      go_loopw [5, 6] (fun nv iv wr => ∃ i u : Nat, 0 ≤ i ∧ i ≤ n ∧ iv = .int .i64 i ∧ nv = .int .i64 u ∧ Hid (digsD u (s.drop i) = digsD 0 (s.drop 0)) ∧ Hid (u < 10 ^ (i - 0)) ∧ wr = w) (fun _ iv _ => n - (intOf iv).toNat)
      case atStart => exact ⟨0, 0, by omega, by omega, rfl, rfl, by simp [Hid], by simp [Hid], by first | rfl | trivial⟩
      case round =>
        obtain ⟨i, u, hAi, hin, rfl, rfl, hdd, hu, rfl⟩ := hrel
        by_cases hlt : i < n
        · obtain ⟨b, hbt⟩ : ∃ b, s[i]? = some b := ⟨_, List.getElem?_eq_getElem (by rw [HN.out]; exact hlt)⟩
          obtain ⟨z, hz2⟩ : ∃ z : Int, (b.toNat : Int) = z := ⟨_, rfl⟩
          have hix := fun w => run_ixS hbt hz2 w
          have hzb : 0 ≤ z ∧ z ≤ 255 := by have := UInt8.toNat_lt b; omega
          have hub : u < 100000000000000000 := by
            have h1 := hu.out
            have h2 : 10 ^ (i - 0) ≤ 10 ^ 17 := Nat.pow_le_pow_right (by omega) (by omega)
            omega
          by_cases hdg : 48 ≤ z ∧ z ≤ 57
          · have HN2 := Lib.hid (show digsD (u * 10 + (b.toNat - 48)) (s.drop (i + 1)) = digsD 0 (s.drop 0) by rw [← hdd.out, drop_at hbt, digsD, if_pos (by omega)])
            have HU2 := Lib.hid (show u * 10 + (b.toNat - 48) < 10 ^ (i + 1 - 0) by
              have h1 := hu.out
              rw [show i + 1 - 0 = (i - 0) + 1 by omega, Nat.pow_succ]; omega)
            have v1 : IntKind.u8.wrap (z - 48) = z - 48 := by have e := IntWalk.u8_in (z - 48) (by omega); exact e
            have v2 : IntKind.i64.wrap (z - 48) = z - 48 := IntWalk.i64_in _ (by omega)
            have v3 : IntKind.i64.wrap (10 * (u : Int)) = 10 * (u : Int) := IntWalk.i64_in _ (by omega)
            have v4 : IntKind.i64.wrap (10 * (u : Int) + (z - 48)) = 10 * (u : Int) + (z - 48) := IntWalk.i64_in _ (by omega)
            have HZ := Lib.hid (show 10 * (u : Int) + (z - 48) = ((u * 10 + (b.toNat - 48) : Nat) : Int) by omega)
            have HQ := Lib.hid (show (decide (48 ≤ z) && decide (z ≤ 57)) = true by simp [hdg])
            clear hbt hz2 hdg hdd hu
            go_wp2_with (go_at_call 22; refine (l01Digit_c z true _ HQ.out).mono ?_; rintro e w' ⟨rfl, rfl⟩)
            go_roundw
            case rel => exact ⟨i + 1, u * 10 + (b.toNat - 48), by omega, by omega, by go_num, congrArg (Value.int .i64) HZ.out, HN2.out, HU2.out, by first | rfl | trivial⟩
            case measure => simp [intOf]; omega
          · have HQ := Lib.hid (show (decide (48 ≤ z) && decide (z ≤ 57)) = false by
              by_cases h9 : 48 ≤ z
              · have h8 : ¬ z ≤ 57 := fun h => hdg ⟨h9, h⟩
                rw [decide_eq_false h8, Bool.and_false]
              · rw [decide_eq_false h9, Bool.false_and])
            obtain ⟨rfl, rfl⟩ := NO.out (by rw [HD2.out, ← hdd.out, drop_at hbt, digsD, if_neg (by omega)]; rfl)
            clear hbt hz2 hdg hdd hu
            go_wp2_with (go_at_call 22; refine (l01Digit_c z false _ HQ.out).mono ?_; rintro e w' ⟨rfl, rfl⟩)
            go_ret2
            exact ⟨rfl, rfl⟩
        · obtain rfl : i = n := by omega
          have hub : u < 1000000000000000000 := by
            have h1 := hu.out
            have h2 : 10 ^ (i - 0) ≤ 10 ^ 18 := Nat.pow_le_pow_right (by omega) (by omega)
            omega
          have v5 : IntKind.i64.wrap (-(u : Int)) = -(u : Int) := IntWalk.i64_in _ (by omega)
          obtain ⟨rfl, rfl⟩ : v = (u : Int) ∧ q = true := by
            have h1 := HV.out
            rw [HD2.out, ← hdd.out, List.drop_eq_nil_of_le (by rw [HN.out]; exact Nat.le_refl _), digsD, Option.map_some] at h1
            injection h1 with h1 h2
            exact ⟨h1.symm, h2.symm⟩
          clear hdd hu HD2 HV NO
          go_wp2_with fail
          go_ret2
          exact ⟨rfl, rfl⟩
end Go.Proofs.YtdendllginlidaaDoor
