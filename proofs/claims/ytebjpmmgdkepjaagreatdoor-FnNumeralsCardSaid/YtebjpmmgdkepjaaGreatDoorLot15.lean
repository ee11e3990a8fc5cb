/-
  Parts of the proof, one behind the other: contracts of the functions that the law reaches, and plain laws.
-/
import Derived.Lib.ItoaLen
import Derived.Test.YtebjpmmgdkepjaaGreatDoorLot03
import Derived.Test.YtebjpmmgdkepjaaGreatDoorLot04
import Derived.Test.YtebjpmmgdkepjaaGreatDoorLot05
import Derived.Test.YtebjpmmgdkepjaaGreatDoorLot06
import Derived.Test.YtebjpmmgdkepjaaGreatDoorLot12
import Derived.Test.YtebjpmmgdkepjaaGreatDoorLot14
/-
  Contracts of chapter 12: lambda terms of the reference: valid ones, ends, depths, the first redex.
-/
namespace Go.Proofs.YtebjpmmgdkepjaaGreatDoor
open Go.RowKit

theorem l12Many_c (k : Int) (w : World) : Calls Tryz.prog 124 #[.int .i64 k] w fun e w' => e = .returned (.int .i64 (manyL k)) ∧ w = w' := by
  by_cases h1 : k = 1
  · subst h1
    go_enter Tryz.func124, Tryz.ntmps124
    go_wp2_with fail
    go_ret
    exact ⟨rfl, rfl⟩
  have g1 : (k == 1) = false := by simpa using h1
  by_cases h2 : k = 2
  · subst h2
    go_enter Tryz.func124, Tryz.ntmps124
    go_wp2_with fail
    go_ret
    exact ⟨rfl, rfl⟩
  have g2 : (k == 2) = false := by simpa using h2
  have HM := Lib.hid (show manyL k = 0 by rw [manyL, if_neg h1, if_neg h2])
  clear h1 h2
  go_enter Tryz.func124, Tryz.ntmps124
  go_wp2_with fail
  go_ret
  exact ⟨by rw [HM.out]; rfl, rfl⟩
set_option maxHeartbeats 2000000 in
set_option maxRecDepth 100000 in
theorem l12Is_c (A : Option Addr) (n cp : Nat) (c : List (Int × Int)) (q : Bool) (w : World) (h : Rd2 w A n c) (hn : n ≤ 1000000000) (hq : validL c = q) :
    Calls Tryz.prog 79 #[.slice A n cp] w fun e w' => e = .returned (.bool q) ∧ Below w.heap.size w w' := by
  have HL := Lib.hid h.len
  have HQ := Lib.hid (show (inB n 1 400 && needL c 1) = q by rw [← hq, validL_need, h.len])
  have H := Lib.hid h; clear h hq
  cases hb1 : inB n 1 400
  · have HF := Lib.hid (show false = q by rw [← HQ.out, hb1]; rfl)
    have hn1 := inB_f hb1
    by_cases h1 : (n : Int) < 1
    · have k1 : decide ((n : Int) < 1) = true := by simpa using h1
      go_enter Tryz.func79, Tryz.ntmps79
      go_wp2_with fail
      go_ret
      exact ⟨by rw [← HF.out]; rfl, below_size⟩
    · have k1 : decide ((n : Int) < 1) = false := by simpa using h1
      have k2 : decide ((400 : Int) < (n : Int)) = true := by rw [decide_eq_true_eq]; omega
      go_enter Tryz.func79, Tryz.ntmps79
      go_wp2_with fail
      go_ret
      exact ⟨by rw [← HF.out]; rfl, below_size⟩
  have hn1 := inB_t hb1
  have HF := Lib.hid (show needL c 1 = q by rw [← HQ.out, hb1]; rfl)
  have k1 : decide ((n : Int) < 1) = false := by rw [decide_eq_false_iff_not]; omega
  have k2 : decide ((400 : Int) < (n : Int)) = false := by rw [decide_eq_false_iff_not]; omega
  clear HQ
  go_enter Tryz.func79, Tryz.ntmps79
  go_wp2_with fail
  clear k1 k2
  go_loopw [3, 4] (fun ov iv wr => ∃ k o : Nat, k ≤ n ∧ o ≤ k + 1 ∧ iv = .int .i64 k ∧ ov = .int .i64 o ∧ Hid (needL (c.drop k) o = q) ∧ Below w.heap.size w wr) (fun _ iv _ => n - (intOf iv).toNat)
  case atStart => exact ⟨0, 1, by omega, by omega, rfl, rfl, HF.out, below_size⟩
  case round =>
    obtain ⟨k, o, hk, ho, rfl, rfl, hr, hb⟩ := hrel
    have HB := Lib.hid hb
    by_cases hlt : k < n
    · obtain ⟨ad, x, rfl, hab, hx, hc0, hc1⟩ := (H.out.below hb).at_ hlt
      obtain ⟨p, v⟩ := x
      have HS := Lib.hid (show (o != 0 && okL (p, v) && needL (c.drop (k + 1)) (o - 1 + manyL p)) = q by rw [← hr.out, drop_at hx]; rfl)
      clear hx hb hr
      by_cases ho0 : o = 0
      · subst ho0
        have HG := Lib.hid (show false = q by rw [← HS.out]; rfl)
        go_wp2_with fail
        go_ret
        exact ⟨by rw [← HG.out]; rfl, HB.out⟩
      have g0 : ((o : Int) == 0) = false := by simp; omega
      have HS' := Lib.hid (show (okL (p, v) && needL (c.drop (k + 1)) (o - 1 + manyL p)) = q by have h := HS.out; rw [show (o != 0) = true by simpa using ho0, Bool.true_and] at h; exact h)
      clear HS
      cases hp : inB p 0 2
      · have HG := Lib.hid (show false = q by rw [← HS'.out]; simp [okL, hp])
        go_wp2_with (go_at_call 75; refine (l00In_b _ _ _ _ (by assumption) _).mono ?_; rintro e w' ⟨rfl, rfl⟩)
        go_ret
        exact ⟨by rw [← HG.out]; rfl, HB.out⟩
      by_cases h4 : p = 0
      · subst h4
        cases hv : inB v 0 399
        · have HG := Lib.hid (show false = q by rw [← HS'.out]; simp [okL, hv])
          go_wp2_with (go_at_call 75; refine (l00In_b _ _ _ _ (by assumption) _).mono ?_; rintro e w' ⟨rfl, rfl⟩)
          go_ret
          exact ⟨by rw [← HG.out]; rfl, HB.out⟩
        · have HG := Lib.hid (show needL (c.drop (k + 1)) (o - 1) = q by rw [← HS'.out]; simp [okL, hp, hv, manyL])
          have v1 : IntKind.i64.wrap ((o : Int) + (-1)) = ((o - 1 : Nat) : Int) := by rw [IntWalk.i64_in _ (by omega)]; omega
          have HMM := Lib.hid (show manyL 0 = 0 from rfl)
          go_wp2_with (first | (go_at_call 75; refine (l00In_b _ _ _ _ (by assumption) _).mono ?_; rintro e w' ⟨rfl, rfl⟩) | (go_at_call 124; refine (l12Many_c 0 _).mono ?_; rw [HMM.out]; rintro e w' ⟨rfl, rfl⟩))
          go_roundw
          case rel => exact ⟨k + 1, o - 1, by omega, by omega, by go_num, by go_num, HG.out, HB.out⟩
          case measure => simp [intOf]; omega
      have g4 : (p == 0) = false := by simpa using h4
      have g4' : (p != 0) = true := by simpa using h4
      by_cases hv : v = 0
      · subst hv
        have HG := Lib.hid (show needL (c.drop (k + 1)) (o - 1 + manyL p) = q by rw [← HS'.out]; simp [okL, hp, h4])
        have hm2 := manyL_le p
        obtain ⟨m, hm⟩ : ∃ m, manyL p = m := ⟨_, rfl⟩
        have HMM := Lib.hid hm
        rw [hm] at HG hm2
        have v0 : IntKind.i64.wrap ((m : Int) - 1) = (m : Int) - 1 := IntWalk.i64_in _ (by omega)
        have v1 : IntKind.i64.wrap ((o : Int) + ((m : Int) - 1)) = ((o - 1 + m : Nat) : Int) := by rw [IntWalk.i64_in _ (by omega)]; omega
        clear hm
        go_wp2_with (first | (go_at_call 75; refine (l00In_b _ _ _ _ (by assumption) _).mono ?_; rintro e w' ⟨rfl, rfl⟩) | (go_at_call 124; refine (l12Many_c p _).mono ?_; rw [HMM.out]; rintro e w' ⟨rfl, rfl⟩))
        go_roundw
        case rel => exact ⟨k + 1, o - 1 + m, by omega, by omega, by go_num, by go_num, HG.out, HB.out⟩
        case measure => simp [intOf]; omega
      · have gv : (v == 0) = false := by simpa using hv
        have gv' : (v != 0) = true := by simpa using hv
        have HG := Lib.hid (show false = q by rw [← HS'.out]; simp [okL, h4, hv])
        go_wp2_with (go_at_call 75; refine (l00In_b _ _ _ _ (by assumption) _).mono ?_; rintro e w' ⟨rfl, rfl⟩)
        go_ret
        exact ⟨by rw [← HG.out]; rfl, HB.out⟩
    · have HG := Lib.hid (show (o == 0) = q by rw [← hr.out, List.drop_eq_nil_of_le (by rw [HL.out]; omega)]; rfl)
      clear hb hr
      by_cases h0 : o = 0
      · subst h0
        go_wp2_with fail
        go_ret
        exact ⟨by rw [← HG.out]; rfl, HB.out⟩
      · have e1 : ((o : Int) == 0) = false := by simp; omega
        have HG' := Lib.hid (show false = q by rw [← HG.out]; simpa using h0)
        go_wp2_with fail
        go_ret
        exact ⟨by rw [← HG'.out]; rfl, HB.out⟩
set_option maxHeartbeats 1000000 in
theorem l12End_c (A : Option Addr) (n cp : Nat) (c : List (Int × Int)) (k p z : Nat) (w : World) (h : Rd2 w A n c) (hn : n ≤ 1000000000) (hp : endP manyL (c.drop k) 1 = some p) (hz : k + p = z) :
    Calls Tryz.prog 89 #[.slice A n cp, .int .i64 k] w fun e w' => e = .returned (.int .i64 z) ∧ w = w' := by
  have HZ := Lib.hid hz
  clear hz
  have HL := Lib.hid h.len
  have HP := Lib.hid hp
  have H := Lib.hid h; clear h hp
  have hkn : k ≤ n := by
    rcases Nat.lt_or_ge n k with h | h
    · have := HP.out; rw [List.drop_eq_nil_of_le (by rw [HL.out]; omega)] at this; cases this
    · exact h
  go_enter Tryz.func89, Tryz.ntmps89
  go_wp2_with fail
  go_loop [1, 5] (fun kv ov => ∃ j o r : Nat, j ≤ n ∧ o ≤ j + 1 ∧ kv = .int .i64 j ∧ ov = .int .i64 o ∧ Hid (endP manyL (c.drop j) o = some r) ∧ Hid (j + r = z)) (fun kv _ => n - (intOf kv).toNat)
  case atStart => exact ⟨k, 1, p, hkn, by omega, rfl, rfl, HP.out, HZ.out⟩
  case round =>
    obtain ⟨j, o, r, hj, ho, rfl, rfl, hr, hs⟩ := hrel
    by_cases ho0 : o = 0
    · subst ho0
      have HR := Lib.hid (show j = z by have := hr.out; rw [endP_zero] at this; injection this with this; have := hs.out; omega)
      clear hr hs
      go_wp2_with fail
      go_ret
      exact ⟨by rw [HR.out]; rfl, rfl⟩
    have g0 : decide ((0 : Int) < (o : Int)) = true := by rw [decide_eq_true_eq]; omega
    have hlt : j < n := by
      rcases Nat.lt_or_ge j n with h | h
      · exact h
      · have := hr.out
        rw [List.drop_eq_nil_of_le (by rw [HL.out]; omega), show o = o - 1 + 1 by omega] at this; cases this
    obtain ⟨ad, x, rfl, hab, hx, hc0, hc1⟩ := H.out.at_ hlt
    obtain ⟨t, v⟩ := x
    obtain ⟨r', hr', HS⟩ : ∃ r', endP manyL (c.drop (j + 1)) (o - 1 + manyL t) = some r' ∧ Hid (j + 1 + r' = z) := by
      have h1 := hr.out
      rw [drop_at hx, show o = o - 1 + 1 by omega, endP_cons] at h1
      obtain ⟨r', h2, h3⟩ := Option.map_eq_some_iff.1 h1
      refine ⟨r', by simpa using h2, ?_⟩
      have := hs.out; unfold Hid; omega
    have hm2 := manyL_le t
    obtain ⟨m, hm⟩ : ∃ m, manyL t = m := ⟨_, rfl⟩
    have HMM := Lib.hid hm
    have HR := Lib.hid (show endP manyL (c.drop (j + 1)) (o - 1 + m) = some r' by rw [← hm]; exact hr')
    rw [hm] at hm2
    have v0 : IntKind.i64.wrap ((m : Int) - 1) = (m : Int) - 1 := IntWalk.i64_in _ (by omega)
    have v1 : IntKind.i64.wrap ((o : Int) + ((m : Int) - 1)) = ((o - 1 + m : Nat) : Int) := by rw [IntWalk.i64_in _ (by omega)]; omega
    clear hr hs hx hr' hm
    go_wp2_with (go_at_call 124; refine (l12Many_c t _).mono ?_; rw [HMM.out]; rintro e w' ⟨rfl, rfl⟩)
    go_round
    case rel => exact ⟨j + 1, o - 1 + m, r', by omega, by omega, by go_num, by go_num, HR.out, HS.out⟩
    case measure => simp [intOf]; omega
/-- the depths as numbers -/
def dpI (ds : List Nat) : List Int := ds.map fun (d : Nat) => (d : Int)
theorem dpI_app (a b : List Nat) : dpI (a ++ b) = dpI a ++ dpI b := List.map_append ..
set_option maxHeartbeats 4000000 in
set_option maxRecDepth 100000 in
theorem l12Depths_c (A : Option Addr) (n cp : Nat) (c : List (Int × Int)) (w : World) (h : Rd2 w A n c) (hn : n ≤ 1000) (hv : endP manyL c 1 = some c.length) :
    Calls Tryz.prog 166 #[.slice A n cp] w fun e w' => ∃ A' c', e = .returned (.slice A' n c') ∧ Wr w' w.heap.size w'.heap.size A' n ((dpI (depL c [0])).map i64) ∧ Below w.heap.size w w' := by
  obtain ⟨D, hD⟩ : ∃ D, depL c [0] = D := ⟨_, rfl⟩
  rw [hD]
  have HL := Lib.hid h.len
  have HD := Lib.hid hD; have HV := Lib.hid (show endP manyL c 1 = some n by rw [hv, h.len])
  have H := Lib.hid h; clear h hD hv
  obtain ⟨w0, hw0⟩ : ∃ w0, (w.alloc (.cells #[] 2)).alloc (.cells #[.int .i64 0] 2) = w0 := ⟨_, rfl⟩
  have hz0 : w0.heap.size = w.heap.size + 2 := by rw [← hw0]; simp
  have E0 := Lib.hid (show Below w.heap.size w w0 by rw [← hw0]; exact (below_size.alloc (Nat.le_refl _) _).alloc (by simp) _)
  have O0 := Lib.hid (show Own w0 w.heap.size 2 1 (some ⟨w.heap.size, 0, none⟩) 0 0 ((dpI []).map i64) by rw [← hw0]; exact (Own.lit (Nat.le_refl _)).alloc _)
  have P0 := Lib.hid (show Own w0 w.heap.size 2 1 (some ⟨w.heap.size + 1, 0, none⟩) 1 1 ((dpI [0].reverse).map i64) by
    rw [← hw0]
    have := Own.fullK (w := w.alloc (.cells #[] 2)) (B := w.heap.size) (k := 1) (m := 1) (e := 2) (vs := [i64 0]) (cs := #[i64 0]) (by simp) rfl rfl (by omega)
    rwa [World.size_alloc] at this)
  go_enter Tryz.func166, Tryz.ntmps166
  go_wp2_with fail
  go_loopw [3, 4, 5] (fun ov pv iv wr => ∃ (k m oc pc : Nat) (ao ap : Addr) (b st : List Nat), k ≤ n ∧ m ≤ k + 1 ∧ st.length = m ∧ iv = .int .i64 k ∧ ov = .slice (some ao) k oc ∧ pv = .slice (some ap) m pc ∧ ao.block ≠ ap.block ∧ Hid (Own wr w.heap.size 2 1 (some ao) k oc ((dpI b).map i64)) ∧ Hid (Own wr w.heap.size 2 1 (some ap) m pc ((dpI st.reverse).map i64)) ∧
    Hid (endP manyL (c.drop k) m = some (n - k)) ∧ Hid (b ++ depL (c.drop k) st = D) ∧ Hid (∀ d ∈ st, d ≤ k) ∧ Below w.heap.size w wr) (fun _ _ iv _ => n - (intOf iv).toNat)
  case atStart => exact ⟨0, 1, 0, 1, ⟨w.heap.size, 0, none⟩, ⟨w.heap.size + 1, 0, none⟩, [], [0], by omega, by omega, rfl, rfl, rfl, rfl, by show w.heap.size ≠ w.heap.size + 1; omega, O0.out, P0.out, HV.out, HD.out, (fun d hd => by simp at hd; omega), E0.out⟩
  case round =>
    clear O0 P0
    obtain ⟨k, m, oc, pc, ao, ap, b, st, hkn, hmk, hst, rfl, rfl, rfl, hne, hO, hP, hE, hr, hdl, hb⟩ := hrel
    have HB := Lib.hid hb
    have hzr := hb.size
    by_cases hlt : k < n
    · obtain ⟨ad, x, rfl, hab, hx, hc0', hc1'⟩ := H.out.at_ hlt
      obtain ⟨t, v⟩ := x
      simp only at hc0' hc1'
      have hc0 := keepc hb hc0'
      have hm1 : 1 ≤ m := by
        rcases Nat.eq_zero_or_pos m with h0 | h0
        · subst h0; have := hE.out; rw [endP_zero] at this; simp at this; exact absurd hlt (by omega)
        · exact h0
      obtain ⟨m0, rfl⟩ : ∃ m0, m = m0 + 1 := ⟨m - 1, by omega⟩
      obtain ⟨d, st', rfl⟩ : ∃ d st', st = d :: st' := by
        cases st with
        | nil => simp at hst
        | cons d st' => exact ⟨d, st', rfl⟩
      simp only [List.length_cons] at hst
      have hdk := hdl.out d (by simp)
      have HE := Lib.hid (show endP manyL (c.drop (k + 1)) (m0 + manyL t) = some (n - (k + 1)) by
        have h1 := hE.out
        rw [drop_at hx, endP_cons] at h1
        obtain ⟨r', h2, h3⟩ := Option.map_eq_some_iff.1 h1
        rw [h2, show r' = n - (k + 1) by omega])
      have HR := Lib.hid (show (b ++ [d]) ++ depL (c.drop (k + 1)) (pushL t d st') = D by rw [← hr.out, drop_at hx, depL, List.append_assoc]; rfl)
      have PC := Lib.hid (show Own wr w.heap.size 2 1 (some ap) m0 pc ((dpI st'.reverse).map i64) from by
        have h1 := hP.out.cut (m := m0) (by omega) (by simp)
        have h2 : (((dpI (d :: st').reverse).map i64).take (m0 * 1)) = (dpI st'.reverse).map i64 := by
          rw [List.reverse_cons, dpI_app, List.map_append, Nat.mul_one]
          exact List.take_left' (by rw [List.length_map, dpI, List.length_map, List.length_reverse]; omega)
        rwa [h2] at h1)
      have dtop : wr.cell? (ap.add m0) = some (.int .i64 d) := by
        have h1 : Rd wr (some ap) (m0 + 1) ((dpI (d :: st').reverse).map i64) := hP.out.wr.rd
        obtain ⟨a', e, _, hc⟩ := h1.2 (by omega)
        injection e with e; subst e
        refine hc m0 _ ?_
        have hll : ((dpI st'.reverse).map i64).length = m0 := by simp [dpI]; omega
        rw [List.reverse_cons, dpI_app, List.map_append, List.getElem?_append_right (by omega), hll, Nat.sub_self]
        rfl
      have HDL := Lib.hid (show ∀ y ∈ pushL t d st', y ≤ k + 1 from pushL_le hdk fun y hy => by have := hdl.out y (by simp [hy]); omega)
      have PAlt := (hP.out.block rfl).2.1
      have vm : IntKind.i64.wrap (((m0 + 1 : Nat) : Int) - 1) = (m0 : Int) := by rw [IntWalk.i64_in _ (by omega)]; omega
      have vm' : IntKind.i64.wrap ((m0 : Int) + 1 - 1) = (m0 : Int) := by rw [IntWalk.i64_in _ (by omega)]; omega
      have hmpc := hP.out.cap
      clear hb hx hr hE hP hdl hc1'
      have vd : IntKind.i64.wrap ((d : Int) + 1) = (d : Int) + 1 := IntWalk.i64_in _ (by omega)
      have hapl : ap.block < wr.heap.size := PAlt
      by_cases h1 : t = 1
      · subst h1
        have HE1 := Lib.hid (show endP manyL (c.drop (k + 1)) (m0 + 1) = some (n - (k + 1)) from HE.out)
        have HR1 := Lib.hid (show (b ++ [d]) ++ depL (c.drop (k + 1)) ((d + 1) :: st') = D from HR.out)
        have HDL1 := Lib.hid (show ∀ y ∈ (d + 1) :: st', y ≤ k + 1 from HDL.out)
        clear HE HR HDL
        · go_wp2_with (first
            | (at_builtin; refine wp_app1 (by rfl) _ _ 29 2 (.int .i64 0) 8 (by rfl) Tryz.underlying29 info_i64 rfl w.heap.size (some ao) k oc ((dpI b).map i64) (by rfl) (by exact hO.out.alloc _) wr.heap.size (.int .i64 d) (by rfl) (by exact new_cell _ _ _ 0) rfl (by omega) (by omega) (by simp; omega) ?_; intro g6 c6 w6 own6 hb6 hk6 hg6 hz6; have B6 := Lib.hid ((HB.out.alloc hzr _).trans hb6); have P6 := Lib.hid ((PC.out.alloc (.cells #[.int .i64 d] 2)).move (w' := w6) (fun a ha => by injection ha with ha; subst ha; exact hk6 _ (by simp; omega) (fun ad' h => by injection h with h; subst h; exact hne))); have O6 := Lib.hid own6; have n6 : g6 ≠ ap.block := (by rcases hg6 with h | h; (· injection h with h; subst h; exact hne); (· simp at h; omega)); have hz6' := hz6; simp only [World.size_alloc] at hz6'; have hc0 := keepc B6.out hc0'; clear own6 hk6 hg6)
            | (at_builtin; refine wp_appA (by rfl) _ _ (by rfl) w.heap.size (some ap) m0 pc ((dpI st'.reverse).map i64) (by rfl) (by exact P6.out.alloc _) (some ⟨w6.heap.size, 0, none⟩) 1 1 [(d : Int) + 1] (by rfl) (by exact (Blk.new _ _ _).rd (by rfl) (by simp)) (by omega) (by simp; omega) ?_; intro A7 c7 w7 own7 hb7 hk7 hg7 hz7))

          have O7 := Lib.hid ((O6.out.alloc (.cells #[.int .i64 ((d : Int) + 1)] 2)).move (w' := w7) (fun a ha => by injection ha with ha; subst ha; exact hk7 _ (by have h5 : g6 < w6.heap.size := (O6.out.block rfl).2.1; simp; omega) (fun ad' h => by injection h with h; subst h; exact fun e => n6 e.symm)))
          have B7 := Lib.hid ((B6.out.alloc (by omega) _).trans hb7)
          have P7 := Lib.hid own7
          have OB : g6 < w6.heap.size := (O6.out.block rfl).2.1
          obtain ⟨a7, hA7, n7⟩ : ∃ a7, A7 = some a7 ∧ g6 ≠ a7.block := by
            rcases hg7 with h | h
            · exact ⟨ap, h, n6⟩
            · exact ⟨_, h, by show g6 ≠ (w6.alloc _).heap.size; rw [World.size_alloc]; omega⟩
          subst hA7
          clear own7 hb7 hk7 hg7 hz7
          go_roundw
          case rel => exact ⟨k + 1, m0 + 1, c6, c7, ⟨g6, 0, none⟩, a7, b ++ [d], (d + 1) :: st', by omega, by omega, by simp; omega, by go_num, rfl, rfl, n7, by have h := O7.out; rwa [show (dpI b).map i64 ++ [i64 d] = (dpI (b ++ [d])).map i64 by rw [dpI_app, List.map_append]; rfl] at h, by have h := P7.out; rwa [show (dpI st'.reverse).map i64 ++ [(d : Int) + 1].map i64 = (dpI ((d + 1) :: st').reverse).map i64 by simp [dpI]] at h, HE1.out, HR1.out, HDL1.out, B7.out⟩
          case measure => simp [intOf]; omega
      have g1 : (t == 1) = false := by simpa using h1
      by_cases h2 : t = 2
      · subst h2
        have HE1 := Lib.hid (show endP manyL (c.drop (k + 1)) (m0 + 2) = some (n - (k + 1)) from HE.out)
        have HR1 := Lib.hid (show (b ++ [d]) ++ depL (c.drop (k + 1)) (d :: d :: st') = D from HR.out)
        have HDL1 := Lib.hid (show ∀ y ∈ d :: d :: st', y ≤ k + 1 from HDL.out)
        clear HE HR HDL
        · go_wp2_with (first
            | (at_builtin; refine wp_app1 (by rfl) _ _ 29 2 (.int .i64 0) 8 (by rfl) Tryz.underlying29 info_i64 rfl w.heap.size (some ao) k oc ((dpI b).map i64) (by rfl) (by exact hO.out.alloc _) wr.heap.size (.int .i64 d) (by rfl) (by exact new_cell _ _ _ 0) rfl (by omega) (by omega) (by simp; omega) ?_; intro g6 c6 w6 own6 hb6 hk6 hg6 hz6; have B6 := Lib.hid ((HB.out.alloc hzr _).trans hb6); have P6 := Lib.hid ((PC.out.alloc (.cells #[.int .i64 d] 2)).move (w' := w6) (fun a ha => by injection ha with ha; subst ha; exact hk6 _ (by simp; omega) (fun ad' h => by injection h with h; subst h; exact hne))); have O6 := Lib.hid own6; have n6 : g6 ≠ ap.block := (by rcases hg6 with h | h; (· injection h with h; subst h; exact hne); (· simp at h; omega)); have hz6' := hz6; simp only [World.size_alloc] at hz6'; have hc0 := keepc B6.out hc0'; clear own6 hk6 hg6)
            | (at_builtin; refine wp_appA (by rfl) _ _ (by rfl) w.heap.size (some ap) m0 pc ((dpI st'.reverse).map i64) (by rfl) (by exact P6.out.alloc _) (some ⟨w6.heap.size, 0, none⟩) 2 2 [(d : Int), (d : Int)] (by rfl) (by exact (Blk.new _ _ _).rd (by rfl) (by simp)) (by omega) (by simp; omega) ?_; intro A7 c7 w7 own7 hb7 hk7 hg7 hz7))

          have O7 := Lib.hid ((O6.out.alloc (.cells #[.int .i64 (d : Int), .int .i64 (d : Int)] 2)).move (w' := w7) (fun a ha => by injection ha with ha; subst ha; exact hk7 _ (by have h5 : g6 < w6.heap.size := (O6.out.block rfl).2.1; simp; omega) (fun ad' h => by injection h with h; subst h; exact fun e => n6 e.symm)))
          have B7 := Lib.hid ((B6.out.alloc (by omega) _).trans hb7)
          have P7 := Lib.hid own7
          have OB : g6 < w6.heap.size := (O6.out.block rfl).2.1
          obtain ⟨a7, hA7, n7⟩ : ∃ a7, A7 = some a7 ∧ g6 ≠ a7.block := by
            rcases hg7 with h | h
            · exact ⟨ap, h, n6⟩
            · exact ⟨_, h, by show g6 ≠ (w6.alloc _).heap.size; rw [World.size_alloc]; omega⟩
          subst hA7
          clear own7 hb7 hk7 hg7 hz7
          go_roundw
          case rel => exact ⟨k + 1, m0 + 2, c6, c7, ⟨g6, 0, none⟩, a7, b ++ [d], d :: d :: st', by omega, by omega, by simp; omega, by go_num, rfl, rfl, n7, by have h := O7.out; rwa [show (dpI b).map i64 ++ [i64 d] = (dpI (b ++ [d])).map i64 by rw [dpI_app, List.map_append]; rfl] at h, by have h := P7.out; rwa [show (dpI st'.reverse).map i64 ++ [(d : Int), (d : Int)].map i64 = (dpI (d :: d :: st').reverse).map i64 by simp [dpI]] at h, HE1.out, HR1.out, HDL1.out, B7.out⟩
          case measure => simp [intOf]; omega
      have g2 : (t == 2) = false := by simpa using h2
      have HE1 := Lib.hid (show endP manyL (c.drop (k + 1)) m0 = some (n - (k + 1)) by have h := HE.out; rwa [manyL, if_neg h1, if_neg h2] at h)
      have HR1 := Lib.hid (show (b ++ [d]) ++ depL (c.drop (k + 1)) st' = D by have h := HR.out; rwa [pushL, if_neg h1, if_neg h2] at h)
      have HDL1 := Lib.hid (show ∀ y ∈ st', y ≤ k + 1 by have h := HDL.out; rwa [pushL, if_neg h1, if_neg h2] at h)
      clear HE HR HDL
      go_wp2_with (at_builtin; refine wp_app1 (by rfl) _ _ 29 2 (.int .i64 0) 8 (by rfl) Tryz.underlying29 info_i64 rfl w.heap.size (some ao) k oc ((dpI b).map i64) (by rfl) (by exact hO.out.alloc _) wr.heap.size (.int .i64 d) (by rfl) (by exact new_cell _ _ _ 0) rfl (by omega) (by omega) (by simp; omega) ?_; intro g6 c6 w6 own6 hb6 hk6 hg6 hz6; have B6 := Lib.hid ((HB.out.alloc hzr _).trans hb6); have P6 := Lib.hid ((PC.out.alloc (.cells #[.int .i64 d] 2)).move (w' := w6) (fun a ha => by injection ha with ha; subst ha; exact hk6 _ (by simp; omega) (fun ad' h => by injection h with h; subst h; exact hne))); have O6 := Lib.hid own6; have n6 : g6 ≠ ap.block := (by rcases hg6 with h | h; (· injection h with h; subst h; exact hne); (· simp at h; omega)); have hz6' := hz6; simp only [World.size_alloc] at hz6'; have hc0 := keepc B6.out hc0'; clear own6 hk6 hg6)
      go_roundw
      case rel => exact ⟨k + 1, m0, c6, pc, ⟨g6, 0, none⟩, ap, b ++ [d], st', by omega, by omega, by omega, by go_num, rfl, rfl, n6, by have h := O6.out; rwa [show (dpI b).map i64 ++ [i64 d] = (dpI (b ++ [d])).map i64 by rw [dpI_app, List.map_append]; rfl] at h, P6.out, HE1.out, HR1.out, HDL1.out, B6.out⟩
      case measure => simp [intOf]; omega
    · have hkn' : k = n := by omega
      have HR1 := Lib.hid (show b = D by rw [← hr.out, List.drop_eq_nil_of_le (by rw [HL.out]; omega)]; simp [depL])
      have HO := Lib.hid (show Wr wr w.heap.size wr.heap.size (some ao) n ((dpI D).map i64) by have h := hO.out.wr; rwa [HR1.out, hkn'] at h)
      clear hb hr hE hdl hP hO
      go_wp2_with fail
      go_ret
      exact ⟨some ao, oc, by rw [hkn']; rfl, HO.out, HB.out⟩
end Go.Proofs.YtebjpmmgdkepjaaGreatDoor
/-
  Contracts of chapter 12: lambda terms of the reference: the first redex, shifting, substituting, one step, the run.
-/
namespace Go.Proofs.YtebjpmmgdkepjaaGreatDoor
open Go.RowKit

theorem pair_set {M D : List (Int × Int)} {y : Int × Int} {k : Nat} (hk : M.length = k) (v : Int) : ((M ++ y :: D).flatMap enc2).set (k * 2 + 1) (i64 v) = (M ++ (y.1, v) :: D).flatMap enc2 := by
  rw [List.flatMap_append, List.set_append_right _ _ (by rw [flatX_len enc2 2 enc2_len, hk]; omega), flatX_len enc2 2 enc2_len, hk, Nat.add_sub_cancel_left, List.flatMap_cons, List.flatMap_append, List.flatMap_cons]
  rfl
theorem len2_of {w : World} {lo hi m : Nat} {A : Option Addr} {F : List (Int × Int)} (h : Wr w lo hi A (m * 2) (F.flatMap enc2)) : F.length = m := Rd2.len (w := w) (A := A) h.rd
set_option maxHeartbeats 1000000 in
theorem l12Redex_c (A : Option Addr) (n cp : Nat) (c : List (Int × Int)) (F : Option Nat) (w : World) (h : Rd2 w A n c) (hn : n ≤ 1000000000) (hF : redL c n 0 = F) :
    Calls Tryz.prog 80 #[.slice A n cp] w fun e w' => e = .returned (.int .i64 (atI F)) ∧ w = w' := by
  have HL := Lib.hid h.len
  have HF := Lib.hid hF
  have H := Lib.hid h; clear h hF
  go_enter Tryz.func80, Tryz.ntmps80
  go_wp2_with fail
  go_loop [3] (fun kv => ∃ k : Nat, k ≤ n ∧ kv = .int .i64 k ∧ Hid (redL c (n - k) k = F)) (fun kv => n - (intOf kv).toNat)
  case atStart => exact ⟨0, by omega, rfl, HF.out⟩
  case round =>
    obtain ⟨k, hk, rfl, hr⟩ := hrel
    have v1 : IntKind.i64.wrap ((k : Int) + 1) = (k : Int) + 1 := IntWalk.i64_in _ (by omega)
    by_cases hlt : k + 1 < n
    · have g1 : decide ((k : Int) + 1 < (n : Int)) = true := by rw [decide_eq_true_eq]; omega
      obtain ⟨ad, x, rfl, hab, hx, hc0, hc1⟩ := H.out.at_ (k := k) (by omega)
      obtain ⟨ad', y, e, _, hy, hd0, hd1⟩ := H.out.at_ hlt
      injection e with e; subst e
      obtain ⟨p, v⟩ := x; obtain ⟨p', v'⟩ := y
      simp only at hc0 hc1 hd0 hd1
      have HS := Lib.hid (show (if (decide (p = 2) && decide (p' = 1)) = true then some k else redL c (n - (k + 1)) (k + 1)) = F by rw [← hr.out, show n - k = n - (k + 1) + 1 by omega, redL, redB_at hx hy])
      clear hx hy hr
      by_cases h2 : p = 2
      · subst h2
        by_cases h1 : p' = 1
        · subst h1
          have HG := Lib.hid (show some k = F from HS.out)
          go_wp2_with fail
          go_ret
          exact ⟨by rw [← HG.out]; rfl, rfl⟩
        · have g2 : (p' == 1) = false := by simpa using h1
          have HG := Lib.hid (show redL c (n - (k + 1)) (k + 1) = F by rw [← HS.out, if_neg (by simp [h1])])
          go_wp2_with fail
          go_round
          case rel => exact ⟨k + 1, by omega, by go_num, HG.out⟩
          case measure => simp [intOf]; omega
      · have g2 : (p == 2) = false := by simpa using h2
        have HG := Lib.hid (show redL c (n - (k + 1)) (k + 1) = F by rw [← HS.out, if_neg (by simp [h2])])
        go_wp2_with fail
        go_round
        case rel => exact ⟨k + 1, by omega, by go_num, HG.out⟩
        case measure => simp [intOf]; omega
    · have g1 : decide ((k : Int) + 1 < (n : Int)) = false := by rw [decide_eq_false_iff_not]; omega
      have HG := Lib.hid (show none = F by
        rw [← hr.out]
        rcases Nat.eq_zero_or_pos (n - k) with h0 | h0
        · rw [h0]; rfl
        · rw [show n - k = 0 + 1 by omega, redL, redB_last (by rw [HL.out]; omega)]; rfl)
      go_wp2_with fail
      go_ret
      exact ⟨by rw [← HG.out]; rfl, rfl⟩
set_option maxHeartbeats 1000000 in
theorem redexAt_c (A : Option Addr) (n cp : Nat) (c : List (Int × Int)) (F : Option Nat) (w : World) (h : Rd2 w A n c) (hn : n ≤ 1000000000) (hF : redL c n 0 = F) :
    Calls Tryz.prog 63 #[.slice A n cp] w fun e w' => e = .returned (.int .i64 (atI F)) ∧ w = w' := by
  have HL := Lib.hid h.len
  have HF := Lib.hid hF
  have H := Lib.hid h; clear h hF
  go_enter Tryz.func63, Tryz.ntmps63
  go_wp2_with fail
  go_loop [3] (fun kv => ∃ k : Nat, k ≤ n ∧ kv = .int .i64 k ∧ Hid (redL c (n - k) k = F)) (fun kv => n - (intOf kv).toNat)
  case atStart => exact ⟨0, by omega, rfl, HF.out⟩
  case round =>
    obtain ⟨k, hk, rfl, hr⟩ := hrel
    have v1 : IntKind.i64.wrap ((k : Int) + 1) = (k : Int) + 1 := IntWalk.i64_in _ (by omega)
    by_cases hlt : k + 1 < n
    · have g1 : decide ((k : Int) + 1 < (n : Int)) = true := by rw [decide_eq_true_eq]; omega
      obtain ⟨ad, x, rfl, hab, hx, hc0, hc1⟩ := H.out.at_ (k := k) (by omega)
      obtain ⟨ad', y, e, _, hy, hd0, hd1⟩ := H.out.at_ hlt
      injection e with e; subst e
      obtain ⟨p, v⟩ := x; obtain ⟨p', v'⟩ := y
      simp only at hc0 hc1 hd0 hd1
      have HS := Lib.hid (show (if (decide (p = 2) && decide (p' = 1)) = true then some k else redL c (n - (k + 1)) (k + 1)) = F by rw [← hr.out, show n - k = n - (k + 1) + 1 by omega, redL, redB_at hx hy])
      clear hx hy hr
      by_cases h2 : p = 2
      · subst h2
        by_cases h1 : p' = 1
        · subst h1
          have HG := Lib.hid (show some k = F from HS.out)
          go_wp2_with fail
          go_ret
          exact ⟨by rw [← HG.out]; rfl, rfl⟩
        · have g2 : (p' == 1) = false := by simpa using h1
          have HG := Lib.hid (show redL c (n - (k + 1)) (k + 1) = F by rw [← HS.out, if_neg (by simp [h1])])
          go_wp2_with fail
          go_round
          case rel => exact ⟨k + 1, by omega, by go_num, HG.out⟩
          case measure => simp [intOf]; omega
      · have g2 : (p == 2) = false := by simpa using h2
        have HG := Lib.hid (show redL c (n - (k + 1)) (k + 1) = F by rw [← HS.out, if_neg (by simp [h2])])
        go_wp2_with fail
        go_round
        case rel => exact ⟨k + 1, by omega, by go_num, HG.out⟩
        case measure => simp [intOf]; omega
    · have g1 : decide ((k : Int) + 1 < (n : Int)) = false := by rw [decide_eq_false_iff_not]; omega
      have HG := Lib.hid (show none = F by
        rw [← hr.out]
        rcases Nat.eq_zero_or_pos (n - k) with h0 | h0
        · rw [h0]; rfl
        · rw [show n - k = 0 + 1 by omega, redL, redB_last (by rw [HL.out]; omega)]; rfl)
      go_wp2_with fail
      go_ret
      exact ⟨by rw [← HG.out]; rfl, rfl⟩
set_option maxHeartbeats 4000000 in
set_option maxRecDepth 100000 in
theorem l12Shift_c (A : Option Addr) (n cp : Nat) (c : List (Int × Int)) (b : Nat) (S : List (Int × Int)) (w : World) (h : Rd2 w A n c) (hn : n ≤ 1000) (hv : endP manyL c 1 = some c.length) (hok : ∀ x ∈ c, okL x = true) (hb : b ≤ 1000) (hS : shiftL b c = S) :
    Calls Tryz.prog 167 #[.slice A n cp, .int .i64 0, .int .i64 b] w fun e w' => ∃ A' c', e = .returned (.slice A' n c') ∧ Wr w' w.heap.size w'.heap.size A' (n * 2) (S.flatMap enc2) ∧ n ≤ c' ∧ Below w.heap.size w w' := by
  have hl := h.len
  have hdl : (depL c [0]).length = n := by rw [← hl]; exact depL_len hv
  obtain ⟨D, hD⟩ : ∃ D, depL c [0] = D := ⟨_, rfl⟩
  rw [hD] at hdl
  have hDb : ∀ d ∈ D, d ≤ n := fun d hd => by rw [← hD] at hd; have := depL_le (M := 0) (st := [0]) (l := c) (by simp) d hd; omega
  have HSZ := Lib.hid (show List.zipWith (shE b) c D = S by rw [← hS, shiftL_zip, hD])
  have HL := Lib.hid hl; have HDL := Lib.hid hdl; have HDB := Lib.hid hDb; have HV := Lib.hid hv; have HD := Lib.hid hD; have HOK := Lib.hid hok
  have H := Lib.hid h
  have HC := Lib.hid (show Rd2 (w.alloc (.cells #[] 62)) A n c from h.alloc _)
  have hn1 : 1 ≤ n := by rw [← hl]; rcases Nat.eq_zero_or_pos c.length with h0 | h0; (· rw [List.length_eq_zero_iff.1 h0] at hv; cases hv); (· exact h0)
  clear h hv hok hS hl hdl hDb hD
  go_enter Tryz.func167, Tryz.ntmps167
  go_wp2_with (at_builtin; refine wp_appLam (by rfl) _ _ (by rfl) w.heap.size (some ⟨w.heap.size, 0, none⟩) 0 0 [] (by rfl) (by exact Own.litK (Nat.le_refl _)) A n cp c (by rfl) (by exact HC.out) (by omega) (by simp) ?_; intro A1 c1 w1 own1 hb1 hk1 hg1 hz1)
  rw [Nat.zero_add, List.nil_append] at own1
  have O1 := Lib.hid own1; have B1 := Lib.hid ((below_size.alloc (Nat.le_refl _) (.cells #[] 62)).trans hb1)
  have hz1 := B1.out.size
  have hcap1 := own1.cap
  clear own1 hb1 hk1 hg1
  refine (l12Depths_c A n cp c w1 (H.out.below B1.out) hn HV.out).mono ?_
  rw [HD.out]
  rintro e w2 ⟨A2, c2, rfl, hw2, hb2⟩
  have B2 := Lib.hid (below_chain B1.out hz1 hb2)
  have O2 := Lib.hid ((O1.out.keep hb2).wrK)
  have hz2 := hb2.size
  obtain ⟨a1, rfl, _⟩ := O2.out.2 (by omega)
  have O2' := Lib.hid (show Wr w2 w.heap.size w1.heap.size (some a1) (n * 2) (c.flatMap enc2) from O1.out.wrK.below hb2)
  have D2 := Lib.hid (show Wr w2 w1.heap.size w2.heap.size A2 n ((dpI D).map i64) from hw2)
  clear hw2 hb2 O1 O2
  go_wp2_with fail
  go_loopw [9] (fun iv wr => ∃ k : Nat, k ≤ n ∧ iv = .int .i64 k ∧ Hid (Wr wr w.heap.size w1.heap.size (some a1) (n * 2) ((S.take k ++ c.drop k).flatMap enc2)) ∧ Hid (Wr wr w1.heap.size w2.heap.size A2 n ((dpI D).map i64)) ∧ Hid (Below w.heap.size w wr) ∧ w1.heap.size ≤ wr.heap.size) (fun iv _ => n - (intOf iv).toNat)
  case atStart => exact ⟨0, by omega, rfl, by simpa [Hid] using O2'.out, D2.out, B2.out, hz2⟩
  case round =>
    clear O2' D2
    obtain ⟨k, hk, rfl, hW, hDd, hB, hzw⟩ := hrel
    by_cases hlt : k < n
    · obtain ⟨x, hx⟩ : ∃ x, c[k]? = some x := ⟨_, List.getElem?_eq_getElem (by rw [HL.out]; exact hlt)⟩
      obtain ⟨d, hd⟩ : ∃ d, D[k]? = some d := ⟨_, List.getElem?_eq_getElem (by rw [HDL.out]; exact hlt)⟩
      have hdn := HDB.out d (List.mem_of_getElem? hd)
      have hox := okL_cases (HOK.out x (List.mem_of_getElem? hx))
      have hSk : S[k]? = some (shE b x d) := by rw [← HSZ.out, List.getElem?_zipWith, hx, hd]
      have hml : (S.take k).length = k := by rw [List.length_take, ← HSZ.out, List.length_zipWith, HL.out, HDL.out]; omega
      have hW1 := hW.out
      rw [drop_at hx] at hW1
      have hR1 : Rd2 wr (some a1) n (S.take k ++ x :: c.drop (k + 1)) := hW1.rd
      obtain ⟨_, y', e', hab1, hy', hc0, hc1⟩ := hR1.at_ hlt
      injection e' with e'; subst e'
      rw [List.getElem?_append_right (by omega), hml, Nat.sub_self, List.getElem?_cons_zero] at hy'
      injection hy' with hy'; subst hy'
      obtain ⟨_, _, e', hlo, hhi, _, _, _, hf⟩ := hW1.at_ (k := k * 2 + 1) (by omega)
      injection e' with e'; subst e'
      obtain ⟨ag, g, rfl, hag, hg, hcg⟩ := (RdI.at_ (show RdI wr A2 n (dpI D) from hDd.out.rdI) (k := k) hlt)
      have hgd : g = (d : Int) := by
        rw [dpI, List.getElem?_map, hd] at hg
        injection hg with hg; exact hg.symm
      subst hgd
      have a1' : (⟨(a1.add (k * 2)).block, (a1.add (k * 2)).off + 1, none⟩ : Addr) = a1.add (k * 2 + 1) := next_off a1 (k * 2) 0
      obtain ⟨t, v⟩ := x
      simp only at hc0 hc1 hox
      have HA1 := Lib.hid a1'
      have hf2 : wr.frozen? ⟨(a1.add (k * 2)).block, (a1.add (k * 2)).off + 1, none⟩ = false := by rw [a1']; exact hf
      clear a1' hf
      have vd0 : IntKind.i64.wrap ((d : Int) + 0) = (d : Int) := by rw [IntWalk.i64_in _ (by omega)]; omega
      have vd1 : IntKind.i64.wrap (d : Int) = (d : Int) := IntWalk.i64_in _ (by omega)
      have vb : IntKind.i64.wrap (v + (b : Int)) = v + (b : Int) := IntWalk.i64_in _ (by omega)
      have HTK := Lib.hid (show S.take (k + 1) = S.take k ++ [shE b (t, v) d] from take_at hSk)
      have HW1 := Lib.hid hW1
      by_cases hc : t = 0 ∧ (d : Int) ≤ v
      · obtain ⟨h0, hdv⟩ := hc
        subst h0
        have HSE := Lib.hid (show shE b (0, v) d = (0, v + b) by rw [shE, if_pos ⟨rfl, hdv⟩])
        have gd : decide ((d : Int) ≤ v) = true := by rw [decide_eq_true_eq]; exact hdv
        have HWF := Lib.hid (show ((S.take k ++ (0, v) :: c.drop (k + 1)).flatMap enc2).set (k * 2 + 1) (i64 (v + b)) = (S.take (k + 1) ++ c.drop (k + 1)).flatMap enc2 by
          rw [pair_set hml, HTK.out, HSE.out, List.append_assoc]; rfl)
        have hlo' : w.heap.size ≤ (a1.add (k * 2 + 1)).block := by rw [block_add]; exact hlo
        clear hx hd hSk hW1 hW hR1 hg
        go_wp2_with fail
        go_quiet (fail)
        go_wp2_with fail
        rw [HA1.out]
        go_roundw
        case rel =>
          refine ⟨k + 1, by omega, by go_num, ?_, ?_, ?_, ?_⟩
          · have h1 := (HW1.out.below (below_drewN below_size nq)).set (k := k * 2 + 1) (by omega) (i64 (v + b))
            rwa [HWF.out] at h1
          · exact (hDd.out.below (below_drewN below_size nq)).set_far (.inl (by rw [block_add]; exact hhi)) _
          · exact (below_drewN hB.out nq).setCell hlo' _
          · rw [World.size_setCell]; exact hzw
        case measure => simp [intOf]; omega
      · have HSE := Lib.hid (show shE b (t, v) d = (t, v) by rw [shE, if_neg hc])
        have HWF := Lib.hid (show Wr wr w.heap.size w1.heap.size (some a1) (n * 2) ((S.take (k + 1) ++ c.drop (k + 1)).flatMap enc2) by
          have h1 := hW1
          rwa [show S.take k ++ (t, v) :: c.drop (k + 1) = S.take (k + 1) ++ c.drop (k + 1) by rw [HTK.out, HSE.out, List.append_assoc]; rfl] at h1)
        clear hx hd hSk hW1 hW hR1 hg
        by_cases h0 : t = 0
        · subst h0
          have gd : decide ((d : Int) ≤ v) = false := by rw [decide_eq_false_iff_not]; intro h; exact hc ⟨rfl, h⟩
          go_wp2_with fail
          go_quiet (fail)
          go_wp2_with fail
          go_roundw
          case rel => exact ⟨k + 1, by omega, by go_num, HWF.out.below (below_drewN below_size nq), hDd.out.below (below_drewN below_size nq), below_drewN hB.out nq, hzw⟩
          case measure => simp [intOf]; omega
        · have g0 : (t == 0) = false := by simpa using h0
          go_wp2_with fail
          go_quiet (fail)
          go_wp2_with fail
          go_roundw
          case rel => exact ⟨k + 1, by omega, by go_num, HWF.out.below (below_drewN below_size nq), hDd.out.below (below_drewN below_size nq), below_drewN hB.out nq, hzw⟩
          case measure => simp [intOf]; omega
    · obtain rfl : k = n := by omega
      have HSn := Lib.hid (show Wr wr w.heap.size wr.heap.size (some a1) (k * 2) (S.flatMap enc2) by
        have h1 := hW.out
        rw [List.drop_eq_nil_of_le (by rw [HL.out]; exact Nat.le_refl _), List.append_nil, List.take_of_length_le (by rw [← HSZ.out, List.length_zipWith, HL.out, HDL.out]; omega)] at h1
        exact h1.wider (Nat.le_refl _) hzw)
      go_wp2_with fail
      go_ret
      exact ⟨some a1, c1, rfl, HSn.out, hcap1, hB.out⟩
end Go.Proofs.YtebjpmmgdkepjaaGreatDoor
/-
  Functions as terms: the reference's small functions (variables, abstractions, numerals, applications).
-/
namespace Go.Proofs.YtebjpmmgdkepjaaGreatDoor
open Go.RowKit

/-- a list of terms of the call's own -/
def LsOut (L : List LT) (m : Nat) (w : World) (e : Ending) (w' : World) : Prop := ∃ A c ps, e = .returned (.slice A m c) ∧ LmS w' w.heap.size 25 A m c ps ∧ ps.map Tm.t = L ∧ Below w.heap.size w w'
theorem Rd2.lit {w : World} {e : TypeId} {cs : Array Value} {xs : LT} {n : Nat} (hv : cs.toList = xs.flatMap enc2) (hn : xs.length = n) : Rd2 (w.alloc (.cells cs e)) (some ⟨w.heap.size, 0, none⟩) n xs := by
  have hl : cs.size = n * 2 := by rw [← Array.length_toList, hv, flatX_len enc2 2 enc2_len, hn]
  exact (Blk.new w e cs).rd (by rw [hv]; exact List.take_of_length_le (by rw [flatX_len enc2 2 enc2_len, hn]; exact Nat.le_refl _)) (by omega)
theorem Own.litT {w : World} {B : Nat} {e : TypeId} {cs : Array Value} {xs : LT} {n : Nat} (hB : B ≤ w.heap.size) (hv : cs.toList = xs.flatMap enc2) (hn : xs.length = n) (hm : n ≤ 1000000) : Own (w.alloc (.cells cs e)) B e 2 (some ⟨w.heap.size, 0, none⟩) n n (xs.flatMap enc2) :=
  Own.fullK hB hv (by rw [flatX_len enc2 2 enc2_len, hn]) hm
def numP : Nat → LT
  | 0 => []
  | n + 1 => numP n ++ [(2, 0), (0, 1)]
theorem numP_len : ∀ n, (numP n).length = 2 * n
  | 0 => rfl
  | n + 1 => by rw [numP, List.length_append, numP_len n]; simp; omega
theorem numP_front : ∀ n, numP (n + 1) = (2, 0) :: (0, 1) :: numP n
  | 0 => rfl
  | n + 1 => by
    show numP (n + 1) ++ [(2, 0), (0, 1)] = (2, 0) :: (0, 1) :: (numP n ++ [(2, 0), (0, 1)])
    rw [numP_front n]; rfl
theorem numB_pre : ∀ n, numB n = numP n ++ [(0, 0)]
  | 0 => rfl
  | n + 1 => by rw [numB, numB_pre n, numP_front]; rfl
theorem numLm_pre (n : Nat) : numLm n = ([(1, 0), (1, 0)] ++ numP n) ++ [(0, 0)] := by rw [numLm, absLm, numB_pre, List.append_assoc]; rfl
theorem l18Var_c (i : Int) (w : World) : Calls Tryz.prog 120 #[.int .i64 i] w (TmOut (varLm i) 1 w) := by
  go_enter Tryz.func120, Tryz.ntmps120
  go_wp2_with fail
  go_ret
  have O := Own.litT (w := w) (B := w.heap.size) (e := 62) (cs := #[.int .i64 0, .int .i64 i]) (xs := varLm i) (n := 1) (Nat.le_refl _) rfl rfl (by omega)
  exact ⟨_, 1, rfl, rfl, O.wrK, Nat.le_refl _, below_size.alloc (Nat.le_refl _) _⟩
set_option maxHeartbeats 1000000 in
theorem l18Abs_c (n : Nat) (A : Option Addr) (m c : Nat) (t : LT) (w : World) (h : Rd2 w A m t) (hn : n ≤ 1000) (hm : m ≤ 1000000) : Calls Tryz.prog 122 #[.int .i64 n, .slice A m c] w (TmOut (absLm n t) (n + m) w) := by
  have H := Lib.hid h; have hl := h.len
  clear h
  go_enter Tryz.func122, Tryz.ntmps122
  go_wp2_with fail
  go_loopw [5, 0] (fun ov nv wr => ∃ (j oc : Nat) (O : Option Addr), j ≤ n ∧ nv = .int .i64 ((n : Int) - (j : Int)) ∧ ov = .slice O j oc ∧ Hid (Own wr w.heap.size 62 2 O j oc ((List.replicate j ((1 : Int), (0 : Int))).flatMap enc2)) ∧ Below w.heap.size w wr) (fun _ nv _ => (intOf nv).toNat)
  case atStart => exact ⟨0, 0, _, by omega, by simp, rfl, Own.litK (Nat.le_refl _), below_size.alloc (Nat.le_refl _) _⟩
  case round =>
    obtain ⟨j, oc, O, hj, rfl, rfl, hO, hb⟩ := hrel
    have HB := Lib.hid hb
    have hwz := hb.size
    by_cases hlt : j < n
    · have g0 : decide (((n : Int) - (j : Int)) > 0) = true := decide_eq_true (by omega)
      have v1 : IntKind.i64.wrap ((n : Int) - (j : Int) - 1) = (n : Int) - ((j + 1 : Nat) : Int) := by rw [IntWalk.i64_in _ (by omega)]; omega
      clear hb
      go_wp2_with (at_builtin; refine wp_appLam (by rfl) _ _ (by rfl) w.heap.size O j oc _ (by rfl) (by exact hO.out.alloc _) (some ⟨wr.heap.size, 0, none⟩) 1 1 [(1, 0)] (by rfl) (by exact Rd2.lit rfl rfl) (by omega) (by simp; omega) ?_; intro A1 c1 w1 own1 hb1 hk1 hg1 hz1; have E1 := Lib.hid ((HB.out.alloc hwz _).trans hb1); have O1 := Lib.hid own1; clear own1 hb1 hk1 hg1 hz1)
      go_roundw
      case rel => exact ⟨j + 1, c1, A1, by omega, rfl, rfl, by unfold Hid; rw [List.replicate_succ', List.flatMap_append]; exact O1.out, E1.out⟩
      case measure => simp [intOf]; omega
    · obtain rfl : j = n := by omega
      have g0 : decide (((j : Int) - (j : Int)) > 0) = false := decide_eq_false (by omega)
      have H1 := Lib.hid (H.out.below hb)
      clear hb
      go_wp2_with (at_builtin; refine wp_appLam (by rfl) _ _ (by rfl) w.heap.size O j oc _ (by rfl) (by exact hO.out) A m c t (by rfl) (by exact H1.out) (by omega) hwz ?_; intro A1 c1 w1 own1 hb1 hk1 hg1 hz1; have E1 := Lib.hid (HB.out.trans hb1); have O1 := Lib.hid own1; clear own1 hb1 hk1 hg1 hz1)
      go_ret
      refine ⟨A1, c1, rfl, by rw [absLm_len, hl], ?_, O1.out.cap, E1.out⟩
      have h9 := O1.out.wrK
      rw [absLm, List.flatMap_append]
      exact h9
set_option maxHeartbeats 1000000 in
theorem l12Numeral_c (n : Nat) (w : World) (hn : n ≤ 1000) : Calls Tryz.prog 76 #[.int .i64 n] w (TmOut (numLm n) (2 * n + 3) w) := by
  go_enter Tryz.func76, Tryz.ntmps76
  go_wp2_with fail
  go_loopw [3, 0] (fun ov nv wr => ∃ (j p oc : Nat) (O : Option Addr), j ≤ n ∧ p = 2 + 2 * j ∧ nv = .int .i64 ((n : Int) - (j : Int)) ∧ ov = .slice O p oc ∧ Hid (Own wr w.heap.size 62 2 O p oc (([(1, 0), (1, 0)] ++ numP j).flatMap enc2)) ∧ Below w.heap.size w wr) (fun _ nv _ => (intOf nv).toNat)
  case atStart => exact ⟨0, 2, 2, _, by omega, rfl, by simp, rfl, Own.litT (Nat.le_refl _) rfl rfl (by omega), below_size.alloc (Nat.le_refl _) _⟩
  case round =>
    obtain ⟨j, p, oc, O, hj, hp, rfl, rfl, hO, hb⟩ := hrel
    have HB := Lib.hid hb; have HP := Lib.hid hp
    have hpb : p ≤ 10000 := by omega
    have hwz := hb.size
    clear hp
    by_cases hlt : j < n
    · have g0 : decide (((n : Int) - (j : Int)) > 0) = true := decide_eq_true (by omega)
      have v1 : IntKind.i64.wrap ((n : Int) - (j : Int) - 1) = (n : Int) - ((j + 1 : Nat) : Int) := by rw [IntWalk.i64_in _ (by omega)]; omega
      clear hb
      go_wp2_with (at_builtin; refine wp_appLam (by rfl) _ _ (by rfl) w.heap.size O p oc _ (by rfl) (by exact hO.out.alloc _) (some ⟨wr.heap.size, 0, none⟩) 2 2 [(2, 0), (0, 1)] (by rfl) (by exact Rd2.lit rfl rfl) (by omega) (by simp; omega) ?_; intro A1 c1 w1 own1 hb1 hk1 hg1 hz1; have E1 := Lib.hid ((HB.out.alloc hwz _).trans hb1); have O1 := Lib.hid own1; clear own1 hb1 hk1 hg1 hz1)
      go_roundw
      case rel => exact ⟨j + 1, p + 2, c1, A1, by omega, by have := HP.out; omega, rfl, rfl, by unfold Hid; rw [numP, ← List.append_assoc, List.flatMap_append]; exact O1.out, E1.out⟩
      case measure => simp [intOf]; omega
    · obtain rfl : j = n := by omega
      have g0 : decide (((j : Int) - (j : Int)) > 0) = false := decide_eq_false (by omega)
      clear hb
      go_wp2_with (at_builtin; refine wp_appLam (by rfl) _ _ (by rfl) w.heap.size O p oc _ (by rfl) (by exact hO.out.alloc _) (some ⟨wr.heap.size, 0, none⟩) 1 1 [(0, 0)] (by rfl) (by exact Rd2.lit rfl rfl) (by omega) (by simp; omega) ?_; intro A1 c1 w1 own1 hb1 hk1 hg1 hz1; have E1 := Lib.hid ((HB.out.alloc hwz _).trans hb1); have O1 := Lib.hid own1; clear own1 hb1 hk1 hg1 hz1)
      go_ret
      have e2 : p + 1 = 2 * j + 3 := by have := HP.out; omega
      have O2 := O1.out
      rw [e2] at O2
      rw [e2]
      refine ⟨A1, c1, rfl, numLm_len j, ?_, O2.cap, E1.out⟩
      rw [numLm_pre, List.flatMap_append]
      exact O2.wrK
end Go.Proofs.YtebjpmmgdkepjaaGreatDoor
/-
  Texts, first part: plain facts on decimal numerals; the reference's numeral (l01Dec).
-/
namespace Go.Proofs.YtebjpmmgdkepjaaGreatDoor
open Go.RowKit

/-- a text -/
def bs (l : List UInt8) : ByteArray := ⟨l.toArray⟩
theorem bs_add (a b : List UInt8) : bs a ++ bs b = bs (a ++ b) := by
  have h : (bs a ++ bs b).data = (bs (a ++ b)).data := by rw [ByteArray.data_append]; simp [bs]
  exact ByteArray.ext h
theorem bs_size (a : List UInt8) : (bs a).size = a.length := by simp [bs, ByteArray.size]
theorem bs_inj {a b : List UInt8} (h : bs a = bs b) : a = b := by
  have h1 := congrArg (fun t => t.data.toList) h
  simpa [bs] using h1
/-- the decimal digits, none for 0 -/
def dI (u : Nat) : List Int := if _h : u = 0 then [] else dI (u / 10) ++ [48 + ((u % 10 : Nat) : Int)]
termination_by u
decreasing_by omega
theorem dI_zero : dI 0 = [] := by rw [dI]; simp
theorem dI_pos {u : Nat} (h : u ≠ 0) : dI u = dI (u / 10) ++ [48 + ((u % 10 : Nat) : Int)] := by rw [dI, dif_neg h]
theorem dI_text : ∀ u, u ≠ 0 → (dI u).map (fun n => UInt8.ofNat n.toNat) = Lib.decDigits u := by
  intro u
  induction u using Nat.strongRecOn with
  | _ u ih =>
    intro h
    rw [dI_pos h, Lib.decDigits]
    by_cases h1 : u < 10
    · rw [dif_pos h1, show u / 10 = 0 by omega, dI_zero, Nat.mod_eq_of_lt h1]
      simp only [List.nil_append, List.map_cons, List.map_nil]
      congr 2
    · rw [dif_neg h1, List.map_append, ih (u / 10) (by omega) (by omega)]
      simp only [List.map_cons, List.map_nil]
      congr 2
theorem dI_len {u : Nat} (hu : u ≤ 9223372036854775808) : (dI u).length ≤ 20 := by
  by_cases h : u = 0
  · subst h; rw [dI_zero]; simp
  have h1 := Lib.itoa_length_le (-(u : Int)) (by omega) (by omega)
  rw [Lib.itoa_neg u (by omega), ← dI_text u h] at h1
  simp at h1; omega
theorem dI_itoa {n : Int} (h : n ≠ 0) : strOfNums (if n < 0 then 45 :: dI n.natAbs else dI n.natAbs) = bs (Lib.itoa n) := by
  unfold strOfNums bs Lib.itoa
  by_cases h0 : n < 0
  · rw [if_pos h0, if_pos h0, List.map_cons, dI_text _ (by omega)]; rfl
  · rw [if_neg h0, if_neg h0, dI_text _ (by omega), show n.natAbs = n.toNat by omega]
theorem itoa_zero : bs (Lib.itoa 0) = ⟨#[48]⟩ := by
  have : Lib.itoa 0 = Lib.decDigits 0 := rfl
  rw [this, Lib.decDigits, dif_pos (by omega)]; rfl
theorem bytes_rd {w : World} {g n : Nat} {ds : List Int} {lo hi : Nat} (h : Wr w lo hi (some ⟨g, 0, none⟩) n (ds.map (Value.int .u8))) : ∀ i, i < n → w.cell? ⟨g, 0 + i, none⟩ = some (.int .u8 (ds.getD i 0)) := by
  intro i hi
  obtain ⟨_, v, e1, _, _, _, hv, hc, _⟩ := h.at_ hi
  injection e1 with e1; subst e1
  rw [head_add] at hc
  have hl := h.1
  rw [Nat.zero_add, hc, ← hv, List.getElem?_map, List.getD_eq_getElem?_getD, List.getElem?_eq_getElem (by simp at hl; omega)]
  rfl
end Go.Proofs.YtebjpmmgdkepjaaGreatDoor
