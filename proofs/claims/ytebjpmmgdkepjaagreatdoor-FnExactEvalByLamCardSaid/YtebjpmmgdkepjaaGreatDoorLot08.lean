/-
  Parts of the proof, one behind the other: contracts of the functions that the law reaches, and plain laws.
-/
import Derived.Test.YtebjpmmgdkepjaaGreatDoorLot04
import Derived.Test.YtebjpmmgdkepjaaGreatDoorLot06
import Derived.Test.YtebjpmmgdkepjaaGreatDoorLot07
/-
  Contracts of chapter 12: lambda terms of the reference: valid ones, ends, depths, the first redex.
-/
namespace Go.Proofs.YtebjpmmgdkepjaaGreatDoor
open Go.RowKit

theorem l12Many_c (k : Int) (w : World) : Calls Tryz.prog 124 #[.int .i64 k] w fun e w' => e = .returned (.int .i64 (manyL k)) ∧ w = w' := by
  by_cases h1 : k = 1
  · subst h1
    go_enter Tryz.func124, Tryz.ntmps124
    go_wp2_with fail
    go_ret
    exact ⟨rfl, rfl⟩
  have g1 : (k == 1) = false := by simpa using h1
  by_cases h2 : k = 2
  · subst h2
    go_enter Tryz.func124, Tryz.ntmps124
    go_wp2_with fail
    go_ret
    exact ⟨rfl, rfl⟩
  have g2 : (k == 2) = false := by simpa using h2
  have HM := Lib.hid (show manyL k = 0 by rw [manyL, if_neg h1, if_neg h2])
  clear h1 h2
  go_enter Tryz.func124, Tryz.ntmps124
  go_wp2_with fail
  go_ret
  exact ⟨by rw [HM.out]; rfl, rfl⟩
set_option maxHeartbeats 2000000 in
set_option maxRecDepth 100000 in
theorem l12Is_c (A : Option Addr) (n cp : Nat) (c : List (Int × Int)) (q : Bool) (w : World) (h : Rd2 w A n c) (hn : n ≤ 1000000000) (hq : validL c = q) :
    Calls Tryz.prog 79 #[.slice A n cp] w fun e w' => e = .returned (.bool q) ∧ Below w.heap.size w w' := by
  have HL := Lib.hid h.len
  have HQ := Lib.hid (show (inB n 1 400 && needL c 1) = q by rw [← hq, validL_need, h.len])
  have H := Lib.hid h; clear h hq
  cases hb1 : inB n 1 400
  · have HF := Lib.hid (show false = q by rw [← HQ.out, hb1]; rfl)
    have hn1 := inB_f hb1
    by_cases h1 : (n : Int) < 1
    · have k1 : decide ((n : Int) < 1) = true := by simpa using h1
      go_enter Tryz.func79, Tryz.ntmps79
      go_wp2_with fail
      go_ret
      exact ⟨by rw [← HF.out]; rfl, below_size⟩
    · have k1 : decide ((n : Int) < 1) = false := by simpa using h1
      have k2 : decide ((400 : Int) < (n : Int)) = true := by rw [decide_eq_true_eq]; omega
      go_enter Tryz.func79, Tryz.ntmps79
      go_wp2_with fail
      go_ret
      exact ⟨by rw [← HF.out]; rfl, below_size⟩
  have hn1 := inB_t hb1
  have HF := Lib.hid (show needL c 1 = q by rw [← HQ.out, hb1]; rfl)
  have k1 : decide ((n : Int) < 1) = false := by rw [decide_eq_false_iff_not]; omega
  have k2 : decide ((400 : Int) < (n : Int)) = false := by rw [decide_eq_false_iff_not]; omega
  clear HQ
  go_enter Tryz.func79, Tryz.ntmps79
  go_wp2_with fail
  clear k1 k2
  go_loopw [3, 4] (fun ov iv wr => ∃ k o : Nat, k ≤ n ∧ o ≤ k + 1 ∧ iv = .int .i64 k ∧ ov = .int .i64 o ∧ Hid (needL (c.drop k) o = q) ∧ Below w.heap.size w wr) (fun _ iv _ => n - (intOf iv).toNat)
  case atStart => exact ⟨0, 1, by omega, by omega, rfl, rfl, HF.out, below_size⟩
  case round =>
    obtain ⟨k, o, hk, ho, rfl, rfl, hr, hb⟩ := hrel
    have HB := Lib.hid hb
    by_cases hlt : k < n
    · obtain ⟨ad, x, rfl, hab, hx, hc0, hc1⟩ := (H.out.below hb).at_ hlt
      obtain ⟨p, v⟩ := x
      have HS := Lib.hid (show (o != 0 && okL (p, v) && needL (c.drop (k + 1)) (o - 1 + manyL p)) = q by rw [← hr.out, drop_at hx]; rfl)
      clear hx hb hr
      by_cases ho0 : o = 0
      · subst ho0
        have HG := Lib.hid (show false = q by rw [← HS.out]; rfl)
        go_wp2_with fail
        go_ret
        exact ⟨by rw [← HG.out]; rfl, HB.out⟩
      have g0 : ((o : Int) == 0) = false := by simp; omega
      have HS' := Lib.hid (show (okL (p, v) && needL (c.drop (k + 1)) (o - 1 + manyL p)) = q by have h := HS.out; rw [show (o != 0) = true by simpa using ho0, Bool.true_and] at h; exact h)
      clear HS
      cases hp : inB p 0 2
      · have HG := Lib.hid (show false = q by rw [← HS'.out]; simp [okL, hp])
        go_wp2_with (go_at_call 75; refine (l00In_b _ _ _ _ (by assumption) _).mono ?_; rintro e w' ⟨rfl, rfl⟩)
        go_ret
        exact ⟨by rw [← HG.out]; rfl, HB.out⟩
      by_cases h4 : p = 0
      · subst h4
        cases hv : inB v 0 399
        · have HG := Lib.hid (show false = q by rw [← HS'.out]; simp [okL, hv])
          go_wp2_with (go_at_call 75; refine (l00In_b _ _ _ _ (by assumption) _).mono ?_; rintro e w' ⟨rfl, rfl⟩)
          go_ret
          exact ⟨by rw [← HG.out]; rfl, HB.out⟩
        · have HG := Lib.hid (show needL (c.drop (k + 1)) (o - 1) = q by rw [← HS'.out]; simp [okL, hp, hv, manyL])
          have v1 : IntKind.i64.wrap ((o : Int) + (-1)) = ((o - 1 : Nat) : Int) := by rw [IntWalk.i64_in _ (by omega)]; omega
          have HMM := Lib.hid (show manyL 0 = 0 from rfl)
          go_wp2_with (first | (go_at_call 75; refine (l00In_b _ _ _ _ (by assumption) _).mono ?_; rintro e w' ⟨rfl, rfl⟩) | (go_at_call 124; refine (l12Many_c 0 _).mono ?_; rw [HMM.out]; rintro e w' ⟨rfl, rfl⟩))
          go_roundw
          case rel => exact ⟨k + 1, o - 1, by omega, by omega, by go_num, by go_num, HG.out, HB.out⟩
          case measure => simp [intOf]; omega
      have g4 : (p == 0) = false := by simpa using h4
      have g4' : (p != 0) = true := by simpa using h4
      by_cases hv : v = 0
      · subst hv
        have HG := Lib.hid (show needL (c.drop (k + 1)) (o - 1 + manyL p) = q by rw [← HS'.out]; simp [okL, hp, h4])
        have hm2 := manyL_le p
        obtain ⟨m, hm⟩ : ∃ m, manyL p = m := ⟨_, rfl⟩
        have HMM := Lib.hid hm
        rw [hm] at HG hm2
        have v0 : IntKind.i64.wrap ((m : Int) - 1) = (m : Int) - 1 := IntWalk.i64_in _ (by omega)
        have v1 : IntKind.i64.wrap ((o : Int) + ((m : Int) - 1)) = ((o - 1 + m : Nat) : Int) := by rw [IntWalk.i64_in _ (by omega)]; omega
        clear hm
        go_wp2_with (first | (go_at_call 75; refine (l00In_b _ _ _ _ (by assumption) _).mono ?_; rintro e w' ⟨rfl, rfl⟩) | (go_at_call 124; refine (l12Many_c p _).mono ?_; rw [HMM.out]; rintro e w' ⟨rfl, rfl⟩))
        go_roundw
        case rel => exact ⟨k + 1, o - 1 + m, by omega, by omega, by go_num, by go_num, HG.out, HB.out⟩
        case measure => simp [intOf]; omega
      · have gv : (v == 0) = false := by simpa using hv
        have gv' : (v != 0) = true := by simpa using hv
        have HG := Lib.hid (show false = q by rw [← HS'.out]; simp [okL, h4, hv])
        go_wp2_with (go_at_call 75; refine (l00In_b _ _ _ _ (by assumption) _).mono ?_; rintro e w' ⟨rfl, rfl⟩)
        go_ret
        exact ⟨by rw [← HG.out]; rfl, HB.out⟩
    · have HG := Lib.hid (show (o == 0) = q by rw [← hr.out, List.drop_eq_nil_of_le (by rw [HL.out]; omega)]; rfl)
      clear hb hr
      by_cases h0 : o = 0
      · subst h0
        go_wp2_with fail
        go_ret
        exact ⟨by rw [← HG.out]; rfl, HB.out⟩
      · have e1 : ((o : Int) == 0) = false := by simp; omega
        have HG' := Lib.hid (show false = q by rw [← HG.out]; simpa using h0)
        go_wp2_with fail
        go_ret
        exact ⟨by rw [← HG'.out]; rfl, HB.out⟩
set_option maxHeartbeats 1000000 in
theorem l12End_c (A : Option Addr) (n cp : Nat) (c : List (Int × Int)) (k p z : Nat) (w : World) (h : Rd2 w A n c) (hn : n ≤ 1000000000) (hp : endP manyL (c.drop k) 1 = some p) (hz : k + p = z) :
    Calls Tryz.prog 89 #[.slice A n cp, .int .i64 k] w fun e w' => e = .returned (.int .i64 z) ∧ w = w' := by
  have HZ := Lib.hid hz
  clear hz
  have HL := Lib.hid h.len
  have HP := Lib.hid hp
  have H := Lib.hid h; clear h hp
  have hkn : k ≤ n := by
    rcases Nat.lt_or_ge n k with h | h
    · have := HP.out; rw [List.drop_eq_nil_of_le (by rw [HL.out]; omega)] at this; cases this
    · exact h
  go_enter Tryz.func89, Tryz.ntmps89
  go_wp2_with fail
  go_loop [1, 5] (fun kv ov => ∃ j o r : Nat, j ≤ n ∧ o ≤ j + 1 ∧ kv = .int .i64 j ∧ ov = .int .i64 o ∧ Hid (endP manyL (c.drop j) o = some r) ∧ Hid (j + r = z)) (fun kv _ => n - (intOf kv).toNat)
  case atStart => exact ⟨k, 1, p, hkn, by omega, rfl, rfl, HP.out, HZ.out⟩
  case round =>
    obtain ⟨j, o, r, hj, ho, rfl, rfl, hr, hs⟩ := hrel
    by_cases ho0 : o = 0
    · subst ho0
      have HR := Lib.hid (show j = z by have := hr.out; rw [endP_zero] at this; injection this with this; have := hs.out; omega)
      clear hr hs
      go_wp2_with fail
      go_ret
      exact ⟨by rw [HR.out]; rfl, rfl⟩
    have g0 : decide ((0 : Int) < (o : Int)) = true := by rw [decide_eq_true_eq]; omega
    have hlt : j < n := by
      rcases Nat.lt_or_ge j n with h | h
      · exact h
      · have := hr.out
        rw [List.drop_eq_nil_of_le (by rw [HL.out]; omega), show o = o - 1 + 1 by omega] at this; cases this
    obtain ⟨ad, x, rfl, hab, hx, hc0, hc1⟩ := H.out.at_ hlt
    obtain ⟨t, v⟩ := x
    obtain ⟨r', hr', HS⟩ : ∃ r', endP manyL (c.drop (j + 1)) (o - 1 + manyL t) = some r' ∧ Hid (j + 1 + r' = z) := by
      have h1 := hr.out
      rw [drop_at hx, show o = o - 1 + 1 by omega, endP_cons] at h1
      obtain ⟨r', h2, h3⟩ := Option.map_eq_some_iff.1 h1
      refine ⟨r', by simpa using h2, ?_⟩
      have := hs.out; unfold Hid; omega
    have hm2 := manyL_le t
    obtain ⟨m, hm⟩ : ∃ m, manyL t = m := ⟨_, rfl⟩
    have HMM := Lib.hid hm
    have HR := Lib.hid (show endP manyL (c.drop (j + 1)) (o - 1 + m) = some r' by rw [← hm]; exact hr')
    rw [hm] at hm2
    have v0 : IntKind.i64.wrap ((m : Int) - 1) = (m : Int) - 1 := IntWalk.i64_in _ (by omega)
    have v1 : IntKind.i64.wrap ((o : Int) + ((m : Int) - 1)) = ((o - 1 + m : Nat) : Int) := by rw [IntWalk.i64_in _ (by omega)]; omega
    clear hr hs hx hr' hm
    go_wp2_with (go_at_call 124; refine (l12Many_c t _).mono ?_; rw [HMM.out]; rintro e w' ⟨rfl, rfl⟩)
    go_round
    case rel => exact ⟨j + 1, o - 1 + m, r', by omega, by omega, by go_num, by go_num, HR.out, HS.out⟩
    case measure => simp [intOf]; omega
/-- the depths as numbers -/
def dpI (ds : List Nat) : List Int := ds.map fun (d : Nat) => (d : Int)
theorem dpI_app (a b : List Nat) : dpI (a ++ b) = dpI a ++ dpI b := List.map_append ..
set_option maxHeartbeats 4000000 in
set_option maxRecDepth 100000 in
theorem l12Depths_c (A : Option Addr) (n cp : Nat) (c : List (Int × Int)) (w : World) (h : Rd2 w A n c) (hn : n ≤ 1000) (hv : endP manyL c 1 = some c.length) :
    Calls Tryz.prog 166 #[.slice A n cp] w fun e w' => ∃ A' c', e = .returned (.slice A' n c') ∧ Wr w' w.heap.size w'.heap.size A' n ((dpI (depL c [0])).map i64) ∧ Below w.heap.size w w' := by
  obtain ⟨D, hD⟩ : ∃ D, depL c [0] = D := ⟨_, rfl⟩
  rw [hD]
  have HL := Lib.hid h.len
  have HD := Lib.hid hD; have HV := Lib.hid (show endP manyL c 1 = some n by rw [hv, h.len])
  have H := Lib.hid h; clear h hD hv
  obtain ⟨w0, hw0⟩ : ∃ w0, (w.alloc (.cells #[] 2)).alloc (.cells #[.int .i64 0] 2) = w0 := ⟨_, rfl⟩
  have hz0 : w0.heap.size = w.heap.size + 2 := by rw [← hw0]; simp
  have E0 := Lib.hid (show Below w.heap.size w w0 by rw [← hw0]; exact (below_size.alloc (Nat.le_refl _) _).alloc (by simp) _)
  have O0 := Lib.hid (show Own w0 w.heap.size 2 1 (some ⟨w.heap.size, 0, none⟩) 0 0 ((dpI []).map i64) by rw [← hw0]; exact (Own.lit (Nat.le_refl _)).alloc _)
  have P0 := Lib.hid (show Own w0 w.heap.size 2 1 (some ⟨w.heap.size + 1, 0, none⟩) 1 1 ((dpI [0].reverse).map i64) by
    rw [← hw0]
    have := Own.fullK (w := w.alloc (.cells #[] 2)) (B := w.heap.size) (k := 1) (m := 1) (e := 2) (vs := [i64 0]) (cs := #[i64 0]) (by simp) rfl rfl (by omega)
    rwa [World.size_alloc] at this)
  go_enter Tryz.func166, Tryz.ntmps166
  go_wp2_with fail
  go_loopw [3, 4, 5] (fun ov pv iv wr => ∃ (k m oc pc : Nat) (ao ap : Addr) (b st : List Nat), k ≤ n ∧ m ≤ k + 1 ∧ st.length = m ∧ iv = .int .i64 k ∧ ov = .slice (some ao) k oc ∧ pv = .slice (some ap) m pc ∧ ao.block ≠ ap.block ∧ Hid (Own wr w.heap.size 2 1 (some ao) k oc ((dpI b).map i64)) ∧ Hid (Own wr w.heap.size 2 1 (some ap) m pc ((dpI st.reverse).map i64)) ∧
    Hid (endP manyL (c.drop k) m = some (n - k)) ∧ Hid (b ++ depL (c.drop k) st = D) ∧ Hid (∀ d ∈ st, d ≤ k) ∧ Below w.heap.size w wr) (fun _ _ iv _ => n - (intOf iv).toNat)
  case atStart => exact ⟨0, 1, 0, 1, ⟨w.heap.size, 0, none⟩, ⟨w.heap.size + 1, 0, none⟩, [], [0], by omega, by omega, rfl, rfl, rfl, rfl, by show w.heap.size ≠ w.heap.size + 1; omega, O0.out, P0.out, HV.out, HD.out, (fun d hd => by simp at hd; omega), E0.out⟩
  case round =>
    clear O0 P0
    obtain ⟨k, m, oc, pc, ao, ap, b, st, hkn, hmk, hst, rfl, rfl, rfl, hne, hO, hP, hE, hr, hdl, hb⟩ := hrel
    have HB := Lib.hid hb
    have hzr := hb.size
    by_cases hlt : k < n
    · obtain ⟨ad, x, rfl, hab, hx, hc0', hc1'⟩ := H.out.at_ hlt
      obtain ⟨t, v⟩ := x
      simp only at hc0' hc1'
      have hc0 := keepc hb hc0'
      have hm1 : 1 ≤ m := by
        rcases Nat.eq_zero_or_pos m with h0 | h0
        · subst h0; have := hE.out; rw [endP_zero] at this; simp at this; exact absurd hlt (by omega)
        · exact h0
      obtain ⟨m0, rfl⟩ : ∃ m0, m = m0 + 1 := ⟨m - 1, by omega⟩
      obtain ⟨d, st', rfl⟩ : ∃ d st', st = d :: st' := by
        cases st with
        | nil => simp at hst
        | cons d st' => exact ⟨d, st', rfl⟩
      simp only [List.length_cons] at hst
      have hdk := hdl.out d (by simp)
      have HE := Lib.hid (show endP manyL (c.drop (k + 1)) (m0 + manyL t) = some (n - (k + 1)) by
        have h1 := hE.out
        rw [drop_at hx, endP_cons] at h1
        obtain ⟨r', h2, h3⟩ := Option.map_eq_some_iff.1 h1
        rw [h2, show r' = n - (k + 1) by omega])
      have HR := Lib.hid (show (b ++ [d]) ++ depL (c.drop (k + 1)) (pushL t d st') = D by rw [← hr.out, drop_at hx, depL, List.append_assoc]; rfl)
      have PC := Lib.hid (show Own wr w.heap.size 2 1 (some ap) m0 pc ((dpI st'.reverse).map i64) from by
        have h1 := hP.out.cut (m := m0) (by omega) (by simp)
        have h2 : (((dpI (d :: st').reverse).map i64).take (m0 * 1)) = (dpI st'.reverse).map i64 := by
          rw [List.reverse_cons, dpI_app, List.map_append, Nat.mul_one]
          exact List.take_left' (by rw [List.length_map, dpI, List.length_map, List.length_reverse]; omega)
        rwa [h2] at h1)
      have dtop : wr.cell? (ap.add m0) = some (.int .i64 d) := by
        have h1 : Rd wr (some ap) (m0 + 1) ((dpI (d :: st').reverse).map i64) := hP.out.wr.rd
        obtain ⟨a', e, _, hc⟩ := h1.2 (by omega)
        injection e with e; subst e
        refine hc m0 _ ?_
        have hll : ((dpI st'.reverse).map i64).length = m0 := by simp [dpI]; omega
        rw [List.reverse_cons, dpI_app, List.map_append, List.getElem?_append_right (by omega), hll, Nat.sub_self]
        rfl
      have HDL := Lib.hid (show ∀ y ∈ pushL t d st', y ≤ k + 1 from pushL_le hdk fun y hy => by have := hdl.out y (by simp [hy]); omega)
      have PAlt := (hP.out.block rfl).2.1
      have vm : IntKind.i64.wrap (((m0 + 1 : Nat) : Int) - 1) = (m0 : Int) := by rw [IntWalk.i64_in _ (by omega)]; omega
      have vm' : IntKind.i64.wrap ((m0 : Int) + 1 - 1) = (m0 : Int) := by rw [IntWalk.i64_in _ (by omega)]; omega
      have hmpc := hP.out.cap
      clear hb hx hr hE hP hdl hc1'
      have vd : IntKind.i64.wrap ((d : Int) + 1) = (d : Int) + 1 := IntWalk.i64_in _ (by omega)
      have hapl : ap.block < wr.heap.size := PAlt
      by_cases h1 : t = 1
      · subst h1
        have HE1 := Lib.hid (show endP manyL (c.drop (k + 1)) (m0 + 1) = some (n - (k + 1)) from HE.out)
        have HR1 := Lib.hid (show (b ++ [d]) ++ depL (c.drop (k + 1)) ((d + 1) :: st') = D from HR.out)
        have HDL1 := Lib.hid (show ∀ y ∈ (d + 1) :: st', y ≤ k + 1 from HDL.out)
        clear HE HR HDL
        · go_wp2_with (first
            | (at_builtin; refine wp_app1 (by rfl) _ _ 29 2 (.int .i64 0) 8 (by rfl) Tryz.underlying29 info_i64 rfl w.heap.size (some ao) k oc ((dpI b).map i64) (by rfl) (by exact hO.out.alloc _) wr.heap.size (.int .i64 d) (by rfl) (by exact new_cell _ _ _ 0) rfl (by omega) (by omega) (by simp; omega) ?_; intro g6 c6 w6 own6 hb6 hk6 hg6 hz6; have B6 := Lib.hid ((HB.out.alloc hzr _).trans hb6); have P6 := Lib.hid ((PC.out.alloc (.cells #[.int .i64 d] 2)).move (w' := w6) (fun a ha => by injection ha with ha; subst ha; exact hk6 _ (by simp; omega) (fun ad' h => by injection h with h; subst h; exact hne))); have O6 := Lib.hid own6; have n6 : g6 ≠ ap.block := (by rcases hg6 with h | h; (· injection h with h; subst h; exact hne); (· simp at h; omega)); have hz6' := hz6; simp only [World.size_alloc] at hz6'; have hc0 := keepc B6.out hc0'; clear own6 hk6 hg6)
            | (at_builtin; refine wp_appA (by rfl) _ _ (by rfl) w.heap.size (some ap) m0 pc ((dpI st'.reverse).map i64) (by rfl) (by exact P6.out.alloc _) (some ⟨w6.heap.size, 0, none⟩) 1 1 [(d : Int) + 1] (by rfl) (by exact (Blk.new _ _ _).rd (by rfl) (by simp)) (by omega) (by simp; omega) ?_; intro A7 c7 w7 own7 hb7 hk7 hg7 hz7))

          have O7 := Lib.hid ((O6.out.alloc (.cells #[.int .i64 ((d : Int) + 1)] 2)).move (w' := w7) (fun a ha => by injection ha with ha; subst ha; exact hk7 _ (by have h5 : g6 < w6.heap.size := (O6.out.block rfl).2.1; simp; omega) (fun ad' h => by injection h with h; subst h; exact fun e => n6 e.symm)))
          have B7 := Lib.hid ((B6.out.alloc (by omega) _).trans hb7)
          have P7 := Lib.hid own7
          have OB : g6 < w6.heap.size := (O6.out.block rfl).2.1
          obtain ⟨a7, hA7, n7⟩ : ∃ a7, A7 = some a7 ∧ g6 ≠ a7.block := by
            rcases hg7 with h | h
            · exact ⟨ap, h, n6⟩
            · exact ⟨_, h, by show g6 ≠ (w6.alloc _).heap.size; rw [World.size_alloc]; omega⟩
          subst hA7
          clear own7 hb7 hk7 hg7 hz7
          go_roundw
          case rel => exact ⟨k + 1, m0 + 1, c6, c7, ⟨g6, 0, none⟩, a7, b ++ [d], (d + 1) :: st', by omega, by omega, by simp; omega, by go_num, rfl, rfl, n7, by have h := O7.out; rwa [show (dpI b).map i64 ++ [i64 d] = (dpI (b ++ [d])).map i64 by rw [dpI_app, List.map_append]; rfl] at h, by have h := P7.out; rwa [show (dpI st'.reverse).map i64 ++ [(d : Int) + 1].map i64 = (dpI ((d + 1) :: st').reverse).map i64 by simp [dpI]] at h, HE1.out, HR1.out, HDL1.out, B7.out⟩
          case measure => simp [intOf]; omega
      have g1 : (t == 1) = false := by simpa using h1
      by_cases h2 : t = 2
      · subst h2
        have HE1 := Lib.hid (show endP manyL (c.drop (k + 1)) (m0 + 2) = some (n - (k + 1)) from HE.out)
        have HR1 := Lib.hid (show (b ++ [d]) ++ depL (c.drop (k + 1)) (d :: d :: st') = D from HR.out)
        have HDL1 := Lib.hid (show ∀ y ∈ d :: d :: st', y ≤ k + 1 from HDL.out)
        clear HE HR HDL
        · go_wp2_with (first
            | (at_builtin; refine wp_app1 (by rfl) _ _ 29 2 (.int .i64 0) 8 (by rfl) Tryz.underlying29 info_i64 rfl w.heap.size (some ao) k oc ((dpI b).map i64) (by rfl) (by exact hO.out.alloc _) wr.heap.size (.int .i64 d) (by rfl) (by exact new_cell _ _ _ 0) rfl (by omega) (by omega) (by simp; omega) ?_; intro g6 c6 w6 own6 hb6 hk6 hg6 hz6; have B6 := Lib.hid ((HB.out.alloc hzr _).trans hb6); have P6 := Lib.hid ((PC.out.alloc (.cells #[.int .i64 d] 2)).move (w' := w6) (fun a ha => by injection ha with ha; subst ha; exact hk6 _ (by simp; omega) (fun ad' h => by injection h with h; subst h; exact hne))); have O6 := Lib.hid own6; have n6 : g6 ≠ ap.block := (by rcases hg6 with h | h; (· injection h with h; subst h; exact hne); (· simp at h; omega)); have hz6' := hz6; simp only [World.size_alloc] at hz6'; have hc0 := keepc B6.out hc0'; clear own6 hk6 hg6)
            | (at_builtin; refine wp_appA (by rfl) _ _ (by rfl) w.heap.size (some ap) m0 pc ((dpI st'.reverse).map i64) (by rfl) (by exact P6.out.alloc _) (some ⟨w6.heap.size, 0, none⟩) 2 2 [(d : Int), (d : Int)] (by rfl) (by exact (Blk.new _ _ _).rd (by rfl) (by simp)) (by omega) (by simp; omega) ?_; intro A7 c7 w7 own7 hb7 hk7 hg7 hz7))

          have O7 := Lib.hid ((O6.out.alloc (.cells #[.int .i64 (d : Int), .int .i64 (d : Int)] 2)).move (w' := w7) (fun a ha => by injection ha with ha; subst ha; exact hk7 _ (by have h5 : g6 < w6.heap.size := (O6.out.block rfl).2.1; simp; omega) (fun ad' h => by injection h with h; subst h; exact fun e => n6 e.symm)))
          have B7 := Lib.hid ((B6.out.alloc (by omega) _).trans hb7)
          have P7 := Lib.hid own7
          have OB : g6 < w6.heap.size := (O6.out.block rfl).2.1
          obtain ⟨a7, hA7, n7⟩ : ∃ a7, A7 = some a7 ∧ g6 ≠ a7.block := by
            rcases hg7 with h | h
            · exact ⟨ap, h, n6⟩
            · exact ⟨_, h, by show g6 ≠ (w6.alloc _).heap.size; rw [World.size_alloc]; omega⟩
          subst hA7
          clear own7 hb7 hk7 hg7 hz7
          go_roundw
          case rel => exact ⟨k + 1, m0 + 2, c6, c7, ⟨g6, 0, none⟩, a7, b ++ [d], d :: d :: st', by omega, by omega, by simp; omega, by go_num, rfl, rfl, n7, by have h := O7.out; rwa [show (dpI b).map i64 ++ [i64 d] = (dpI (b ++ [d])).map i64 by rw [dpI_app, List.map_append]; rfl] at h, by have h := P7.out; rwa [show (dpI st'.reverse).map i64 ++ [(d : Int), (d : Int)].map i64 = (dpI (d :: d :: st').reverse).map i64 by simp [dpI]] at h, HE1.out, HR1.out, HDL1.out, B7.out⟩
          case measure => simp [intOf]; omega
      have g2 : (t == 2) = false := by simpa using h2
      have HE1 := Lib.hid (show endP manyL (c.drop (k + 1)) m0 = some (n - (k + 1)) by have h := HE.out; rwa [manyL, if_neg h1, if_neg h2] at h)
      have HR1 := Lib.hid (show (b ++ [d]) ++ depL (c.drop (k + 1)) st' = D by have h := HR.out; rwa [pushL, if_neg h1, if_neg h2] at h)
      have HDL1 := Lib.hid (show ∀ y ∈ st', y ≤ k + 1 by have h := HDL.out; rwa [pushL, if_neg h1, if_neg h2] at h)
      clear HE HR HDL
      go_wp2_with (at_builtin; refine wp_app1 (by rfl) _ _ 29 2 (.int .i64 0) 8 (by rfl) Tryz.underlying29 info_i64 rfl w.heap.size (some ao) k oc ((dpI b).map i64) (by rfl) (by exact hO.out.alloc _) wr.heap.size (.int .i64 d) (by rfl) (by exact new_cell _ _ _ 0) rfl (by omega) (by omega) (by simp; omega) ?_; intro g6 c6 w6 own6 hb6 hk6 hg6 hz6; have B6 := Lib.hid ((HB.out.alloc hzr _).trans hb6); have P6 := Lib.hid ((PC.out.alloc (.cells #[.int .i64 d] 2)).move (w' := w6) (fun a ha => by injection ha with ha; subst ha; exact hk6 _ (by simp; omega) (fun ad' h => by injection h with h; subst h; exact hne))); have O6 := Lib.hid own6; have n6 : g6 ≠ ap.block := (by rcases hg6 with h | h; (· injection h with h; subst h; exact hne); (· simp at h; omega)); have hz6' := hz6; simp only [World.size_alloc] at hz6'; have hc0 := keepc B6.out hc0'; clear own6 hk6 hg6)
      go_roundw
      case rel => exact ⟨k + 1, m0, c6, pc, ⟨g6, 0, none⟩, ap, b ++ [d], st', by omega, by omega, by omega, by go_num, rfl, rfl, n6, by have h := O6.out; rwa [show (dpI b).map i64 ++ [i64 d] = (dpI (b ++ [d])).map i64 by rw [dpI_app, List.map_append]; rfl] at h, P6.out, HE1.out, HR1.out, HDL1.out, B6.out⟩
      case measure => simp [intOf]; omega
    · have hkn' : k = n := by omega
      have HR1 := Lib.hid (show b = D by rw [← hr.out, List.drop_eq_nil_of_le (by rw [HL.out]; omega)]; simp [depL])
      have HO := Lib.hid (show Wr wr w.heap.size wr.heap.size (some ao) n ((dpI D).map i64) by have h := hO.out.wr; rwa [HR1.out, hkn'] at h)
      clear hb hr hE hdl hP hO
      go_wp2_with fail
      go_ret
      exact ⟨some ao, oc, by rw [hkn']; rfl, HO.out, HB.out⟩
end Go.Proofs.YtebjpmmgdkepjaaGreatDoor
/-
  Contracts of chapter 12: the reference's step of a combinator term.
-/
namespace Go.Proofs.YtebjpmmgdkepjaaGreatDoor
open Go.RowKit

/-- the slice of an argument -/
def argV (ad : Addr) (cp : Nat) (c : List (Int × Int)) (a i : Nat) : Value := .slice (some (ad.add (endI c a i * 2))) (endI c a (i + 1) - endI c a i) (cp - endI c a i)
def argVs (ad : Addr) (cp : Nat) (c : List (Int × Int)) (a i : Nat) : List Value := (List.range i).map (argV ad cp c a)
theorem argVs_succ (ad : Addr) (cp : Nat) (c : List (Int × Int)) (a i : Nat) : argVs ad cp c a (i + 1) = argVs ad cp c a i ++ [argV ad cp c a i] := by simp [argVs, List.range_succ]
theorem argVs_at {ad : Addr} {cp : Nat} {c : List (Int × Int)} {a i j : Nat} (h : j < i) : (argVs ad cp c a i)[j]? = some (argV ad cp c a j) := by simp [argVs, h]
theorem info_sComb : (Tryz.prog.info? 37).map (fun i => (i.zero, i.size, i.bytes)) = some (some (.slice none 0 0), 1, 24) := by kernel_rfl
theorem addrZ (a : Addr) : a.add 0 = a := by simp [Addr.add]
theorem addr1 (a : Addr) : a.add 1 = ⟨a.block, a.off + 1, none⟩ := by rw [Addr.add, if_neg (by omega)]
theorem addr2 (a : Addr) : a.add 2 = ⟨a.block, a.off + 2, none⟩ := by rw [Addr.add, if_neg (by omega)]
theorem rd_new2 {w : World} {t : TypeId} {m : Nat} (xs : List (Int × Int)) (cs : Array Value) (h : cs.toList = xs.flatMap enc2) (hm : xs.length = m) : Rd2 (w.alloc (.cells cs t)) (some ⟨w.heap.size, 0, none⟩) m xs := by
  have hs : cs.size = m * 2 := by rw [← Array.length_toList, h, flatX_len enc2 2 enc2_len, hm]
  exact (Blk.new w t cs).rd (by rw [h]; exact List.take_of_length_le (by rw [← h, Array.length_toList, hs]; exact Nat.le_refl _)) (by omega)
/-- a term of the call's own, and a Bool -/
def StepOut (S : List (Int × Int)) (q : Bool) (w : World) (e : Ending) (w' : World) : Prop := ∃ A N cap, e = .returned (.tuple #[.slice A N cap, .bool q]) ∧ Wr w' w.heap.size w'.heap.size A (N * 2) (S.flatMap enc2) ∧ S.length = N ∧ N ≤ cap ∧ Below w.heap.size w w'
theorem Own.pairs {w : World} {B n cap : Nat} {e : TypeId} {A : Option Addr} {S : List (Int × Int)} (h : Own w B e 2 A n cap (S.flatMap enc2)) : Rd2 w A n S := h.wrK.rd
set_option maxHeartbeats 4000000 in
set_option maxRecDepth 100000 in
theorem l12CombStep_c (A : Option Addr) (n cp : Nat) (c : List (Int × Int)) (k : Nat) (S : List (Int × Int)) (q : Bool) (w : World) (h : Rd2 w A n c) (hn : n ≤ 400) (hnc : n ≤ cp) (hv : endP manyC c 1 = some c.length) (hk : k < n) (hf : 0 < formC (c.drop k)) (hS : stepC c k = S) (hq : validC S = q) :
    Calls Tryz.prog 134 #[.slice A n cp, .int .i64 k] w (StepOut S q w) := by
  have hl := h.len
  have HL := Lib.hid hl
  obtain ⟨m, hm⟩ : ∃ m, formC (c.drop k) = m := ⟨_, rfl⟩
  obtain ⟨a, ha⟩ : ∃ a, k + m + 1 = a := ⟨_, rfl⟩
  have hm1 : 1 ≤ m ∧ m ≤ 3 := by have := formC_lead hf; omega
  obtain ⟨z, hz, hzn⟩ : ∃ z, endI c a m = z ∧ z ≤ n := by
    obtain ⟨h1, r, h2, h3⟩ := form_args hv (by rw [hl]; exact hk)
    rw [← (formC_lead hf).1, hm, ha] at h2 h3
    exact ⟨a + r, endI_all h2, by omega⟩
  have HE := Lib.hid (show ∀ i, i < m → ∃ p, endP manyC (c.drop (endI c a i)) 1 = some p ∧ endI c a i + p = endI c a (i + 1) ∧ 1 ≤ p by
    obtain ⟨h1, r, h2, h3⟩ := form_args hv (by rw [hl]; exact hk)
    rw [← (formC_lead hf).1, hm, ha] at h2
    exact fun i hi => endI_ok h2 hi)
  have HZ := Lib.hid (show ∀ i, i ≤ m → endI c a i ≤ z from fun i hi => by rw [← hz]; exact endI_mono hi)
  have HM := Lib.hid hm; have HA := Lib.hid ha
  have HS := Lib.hid (show c.take k ++ byC c k m ++ c.drop z = S by rw [← hS, stepC, hm, ha, hz])
  have HQ := Lib.hid hq
  have HZE := Lib.hid hz
  have HV := Lib.hid hv
  obtain ⟨ad, rfl, hab, _⟩ := h.2 (by omega)
  have H := Lib.hid h
  clear h hl hm ha hS hq hz hv hf
  go_enter Tryz.func134, Tryz.ntmps134
  go_wp2_with (go_at_call 174; refine (l12Form_c _ _ _ c k m _ H.out (by omega) HV.out hk HM.out).mono ?_; rintro e w' ⟨rfl, rfl⟩)
  go_loopw [7, 8, 9] (fun av ev iv wr => ∃ (i : Nat) (B : Option Addr) (cc : Nat), i ≤ m ∧ iv = .int .i64 i ∧ ev = .int .i64 (endI c a i) ∧ av = .slice B i cc ∧ Hid (Own wr w.heap.size 37 1 B i cc (argVs ad cp c a i)) ∧ Below w.heap.size w wr) (fun _ _ iv _ => m - (intOf iv).toNat)
  case atStart => exact ⟨0, some ⟨w.heap.size, 0, none⟩, 0, by omega, rfl, by rw [show endI c a 0 = k + m + 1 from HA.out.symm]; go_num, rfl, Own.lit (Nat.le_refl _), below_size.alloc (Nat.le_refl _) _⟩
  case round =>
    obtain ⟨i, B, cc, hi, rfl, rfl, rfl, hO, hb⟩ := hrel
    have EB := Lib.hid hb
    have hwz := hb.size
    by_cases hlt : i < m
    · obtain ⟨p, hp, he, hp1⟩ := HE.out i hlt
      have hz1 := HZ.out (i + 1) (by omega)
      have HP := Lib.hid hp
      obtain ⟨e0, he0⟩ : ∃ e0, endI c a i = e0 := ⟨_, rfl⟩
      obtain ⟨e1, he1⟩ : ∃ e1, endI c a (i + 1) = e1 := ⟨_, rfl⟩
      have HN := Lib.hid (show argV ad cp c a i = .slice (some (ad.add (e0 * 2))) (e1 - e0) (cp - e0) by rw [argV, he0, he1])
      rw [he0] at HP he
      rw [he1] at he hz1
      have HE0 := Lib.hid he0; have HE1 := Lib.hid he1
      have R := Lib.hid (H.out.below EB.out)
      have HEE := Lib.hid he
      rw [he0]
      clear hp he0 he1
      go_wp2_with (first | (go_at_call 132; refine (l12CombEnd_c _ _ _ c e0 p e1 _ R.out (by omega) HP.out HEE.out).mono ?_; rintro e w' ⟨rfl, rfl⟩) | (at_builtin; refine wp_app1 (by rfl) _ _ 115 37 (.slice none 0 0) 24 (by rfl) Tryz.underlying115 info_sComb rfl w.heap.size B i cc (argVs ad cp c a i) (by rfl) (by exact hO.out.alloc _) wr.heap.size (argV ad cp c a i) (by rfl) (by rw [HN.out]; exact new_cell _ _ _ 0) (by rw [HN.out]; rfl) (by omega) (by omega) (by simp; omega) ?_; intro g' cap w3 own3 hb3 hk3 hg3 hz3))
      have O3 := Lib.hid own3; have E3 := Lib.hid ((EB.out.alloc hwz _).trans hb3)
      clear own3 hb3 hk3 hg3 hz3
      go_wp2_with fail
      go_roundw
      case rel => exact ⟨i + 1, some ⟨g', 0, none⟩, cap, by omega, by go_num, by rw [HE1.out], rfl, by unfold Hid; rw [argVs_succ]; exact O3.out, E3.out⟩
      case measure => simp [intOf]; omega
    · obtain rfl : i = m := by omega
      obtain ⟨wo, rfl⟩ : ∃ wo : World, wo = wr := ⟨_, rfl⟩
      have W := Lib.hid hO.out.wr
      have EB := Lib.hid hb
      have HB0 := hb.size
      obtain ⟨ga, v0, rfl, _, hB0, _, hv0, a0, _⟩ := W.out.at_ (k := 0) (by omega)
      rw [argVs_at (by omega)] at hv0
      injection hv0 with hv0; subst hv0
      rw [addrZ] at a0
      have hX : ∀ j, j < i → ∃ P l d, argV ad cp c a j = .slice (some P) l d ∧ l ≤ n ∧ ∀ w', Below w.heap.size w w' → Rd2 w' (some P) l (argI c a j) := fun j hj => by
        obtain ⟨p, _, h1, _⟩ := HE.out j hj
        have h2 := HZ.out (j + 1) (by omega)
        exact ⟨_, _, _, rfl, by omega, fun w' hb => (H.out.below hb).part _ _ (by omega)⟩
      obtain ⟨P0, l0, d0, hv0, hl0, hx0⟩ := hX 0 (by omega)
      have X0 := Lib.hid hx0
      rw [hv0] at a0
      have XK := Lib.hid (show ∀ w', Below w.heap.size w w' → Rd2 w' (some ad) k (c.take k) from fun w' hb => (H.out.below hb).upto k (by omega))
      rw [HZE.out]
      have hzk : k ≤ 400 := by omega
      have HX := Lib.hid hX
      have WW := Lib.hid (show ∀ j, j < i → wo.cell? (ga.add j) = some (argV ad cp c a j) from fun j hj => by
        obtain ⟨gb, v, e, _, _, _, hv, h1, _⟩ := W.out.at_ hj
        injection e with e; subst e
        rw [argVs_at hj] at hv; injection hv with hv; subst hv; exact h1)
      clear hb hv0 hx0 hX
      by_cases hzc : z < cp
      · have XZ := Lib.hid (show ∀ w', Below w.heap.size w w' → Rd2 w' (some (ad.add (z * 2))) (n - z) (c.drop z) from fun w' hb => by
          have := (H.out.below hb).part z (n - z) (by omega)
          rw [List.take_of_length_le (by rw [List.length_drop, HL.out]; exact Nat.le_refl _)] at this; exact this)
        by_cases h3 : i < 3
        · have HSS := Lib.hid (show c.take k ++ argI c a 0 ++ c.drop z = S by rw [← HS.out, byC, if_pos h3, HA.out])
          clear HE HZ HS
          go_wp2_with (first
            | (at_builtin; refine wp_appComb (by rfl) _ _ (by rfl) wo.heap.size _ _ _ _ (by rfl) (by exact Own.litK (Nat.le_refl _)) _ _ _ (c.take k) (by rfl) (by exact XK.out _ (EB.out.alloc (by omega) _)) (by omega) (by first | omega | (simp <;> omega)) ?_; intro A1 c1 w1 own hb hk hg hz; (try rw [Nat.zero_add] at own); (try rw [Nat.add_zero] at own); (try rw [List.nil_append] at own); have O1 := Lib.hid own; have F1 := Lib.hid ((below_size.alloc (Nat.le_refl _) _).trans hb); have E1 := Lib.hid (below_chain EB.out HB0 F1.out); have hz1 := F1.out.size; have x0 := keepB F1.out hB0 a0; clear own hb hk hg hz)
            | (at_builtin; refine wp_appComb (by rfl) _ _ (by rfl) wo.heap.size _ _ _ _ (by rfl) (by exact O1.out) _ _ _ (argI c a 0) (by rfl) (by exact X0.out _ E1.out) (by omega) (by first | omega | (simp <;> omega)) ?_; intro A2 c2 w2 own hb hk hg hz; (try rw [Nat.zero_add] at own); (try rw [Nat.add_zero] at own); (try rw [List.nil_append] at own); have O2 := Lib.hid own; have F2 := Lib.hid ((F1.out).trans hb); have E2 := Lib.hid (below_chain EB.out HB0 F2.out); have hz2 := F2.out.size; skip; clear own hb hk hg hz)
            | (at_builtin; refine wp_appComb (by rfl) _ _ (by rfl) wo.heap.size _ _ _ _ (by rfl) (by exact O2.out) _ _ _ (c.drop z) (by rfl) (by exact XZ.out _ E2.out) (by omega) (by first | omega | (simp <;> omega)) ?_; intro A3 c3 w3 own hb hk hg hz; (try rw [Nat.zero_add] at own); (try rw [Nat.add_zero] at own); (try rw [List.nil_append] at own); have O3 := Lib.hid own; have F3 := Lib.hid ((F2.out).trans hb); have E3 := Lib.hid (below_chain EB.out HB0 F3.out); have hz3 := F3.out.size; skip; clear own hb hk hg hz))
          have HO := Lib.hid (show Own w3 wo.heap.size 100 2 A3 _ c3 (S.flatMap enc2) by rw [← HSS.out]; simpa [List.flatMap_append, List.append_assoc, enc2] using O3.out)
          have hcap := HO.out.cap
          have HR2 := Lib.hid HO.out.pairs
          have hsl := HR2.out.len
          have EE := Lib.hid E3.out
          go_wp2_with (go_at_call 175; refine (l12Comb_c _ _ _ S q _ HR2.out (by omega) HQ.out).mono ?_; rintro e w' ⟨rfl, hb⟩)
          go_ret2
          exact ⟨_, _, _, rfl, (HO.out.wrK.wider HB0 (Nat.le_refl _)).below hb |>.wider (Nat.le_refl _) hb.size, hsl, hcap, below_chain EE.out EE.out.size hb⟩
        · obtain rfl : i = 3 := by omega
          have HSS := Lib.hid (show c.take k ++ ([(0, 0), (0, 0)] ++ argI c a 0 ++ argI c a 2 ++ [(0, 0)] ++ argI c a 1 ++ argI c a 2) ++ c.drop z = S by rw [← HS.out, byC, if_neg h3, HA.out])
          obtain ⟨P1, l1, d1, hv1, hl1, hx1⟩ := HX.out 1 (by omega)
          obtain ⟨P2, l2, d2, hv2, hl2, hx2⟩ := HX.out 2 (by omega)
          have X1 := Lib.hid hx1; have X2 := Lib.hid hx2
          have a1 : wo.cell? ⟨ga.block, ga.off + 1, none⟩ = some (.slice (some P1) l1 d1) := by rw [← addr1, ← hv1]; exact WW.out 1 (by omega)
          have a2 : wo.cell? ⟨ga.block, ga.off + 2, none⟩ = some (.slice (some P2) l2 d2) := by rw [← addr2, ← hv2]; exact WW.out 2 (by omega)
          clear HE HZ HS hv1 hv2 hx1 hx2
          go_wp2_with (first
            | (at_builtin; refine wp_appComb (by rfl) _ _ (by rfl) wo.heap.size _ _ _ _ (by rfl) (by exact Own.litK (Nat.le_refl _)) _ _ _ (c.take k) (by rfl) (by exact XK.out _ (EB.out.alloc (by omega) _)) (by omega) (by first | omega | (simp <;> omega)) ?_; intro A1 c1 w1 own hb hk hg hz; (try rw [Nat.zero_add] at own); (try rw [Nat.add_zero] at own); (try rw [List.nil_append] at own); have O1 := Lib.hid own; have F1 := Lib.hid ((below_size.alloc (Nat.le_refl _) _).trans hb); have E1 := Lib.hid (below_chain EB.out HB0 F1.out); have hz1 := F1.out.size; skip; clear own hb hk hg hz)
            | (at_builtin; refine wp_appComb (by rfl) _ _ (by rfl) wo.heap.size _ _ _ _ (by rfl) (by exact O1.out.alloc _) _ _ _ ([(0, 0), (0, 0)]) (by rfl) (by exact rd_new2 [(0, 0), (0, 0)] _ rfl rfl) (by omega) (by first | omega | (simp <;> omega)) ?_; intro A2 c2 w2 own hb hk hg hz; (try rw [Nat.zero_add] at own); (try rw [Nat.add_zero] at own); (try rw [List.nil_append] at own); have O2 := Lib.hid own; have F2 := Lib.hid ((F1.out.alloc (by omega) _).trans hb); have E2 := Lib.hid (below_chain EB.out HB0 F2.out); have hz2 := F2.out.size; have x0 := keepB F2.out hB0 a0; clear own hb hk hg hz)
            | (at_builtin; refine wp_appComb (by rfl) _ _ (by rfl) wo.heap.size _ _ _ _ (by rfl) (by exact O2.out) _ _ _ (argI c a 0) (by rfl) (by exact X0.out _ E2.out) (by omega) (by first | omega | (simp <;> omega)) ?_; intro A3 c3 w3 own hb hk hg hz; (try rw [Nat.zero_add] at own); (try rw [Nat.add_zero] at own); (try rw [List.nil_append] at own); have O3 := Lib.hid own; have F3 := Lib.hid ((F2.out).trans hb); have E3 := Lib.hid (below_chain EB.out HB0 F3.out); have hz3 := F3.out.size; have x2 := keepB (p := ⟨ga.block, ga.off + 2, none⟩) F3.out hB0 a2; clear own hb hk hg hz)
            | (at_builtin; refine wp_appComb (by rfl) _ _ (by rfl) wo.heap.size _ _ _ _ (by rfl) (by exact O3.out) _ _ _ (argI c a 2) (by rfl) (by exact X2.out _ E3.out) (by omega) (by first | omega | (simp <;> omega)) ?_; intro A4 c4 w4 own hb hk hg hz; (try rw [Nat.zero_add] at own); (try rw [Nat.add_zero] at own); (try rw [List.nil_append] at own); have O4 := Lib.hid own; have F4 := Lib.hid ((F3.out).trans hb); have E4 := Lib.hid (below_chain EB.out HB0 F4.out); have hz4 := F4.out.size; skip; clear own hb hk hg hz)
            | (at_builtin; refine wp_appComb (by rfl) _ _ (by rfl) wo.heap.size _ _ _ _ (by rfl) (by exact O4.out.alloc _) _ _ _ ([(0, 0)]) (by rfl) (by exact rd_new2 [(0, 0)] _ rfl rfl) (by omega) (by first | omega | (simp <;> omega)) ?_; intro A5 c5 w5 own hb hk hg hz; (try rw [Nat.zero_add] at own); (try rw [Nat.add_zero] at own); (try rw [List.nil_append] at own); have O5 := Lib.hid own; have F5 := Lib.hid ((F4.out.alloc (by omega) _).trans hb); have E5 := Lib.hid (below_chain EB.out HB0 F5.out); have hz5 := F5.out.size; have x1 := keepB (p := ⟨ga.block, ga.off + 1, none⟩) F5.out hB0 a1; clear own hb hk hg hz)
            | (at_builtin; refine wp_appComb (by rfl) _ _ (by rfl) wo.heap.size _ _ _ _ (by rfl) (by exact O5.out) _ _ _ (argI c a 1) (by rfl) (by exact X1.out _ E5.out) (by omega) (by first | omega | (simp <;> omega)) ?_; intro A6 c6 w6 own hb hk hg hz; (try rw [Nat.zero_add] at own); (try rw [Nat.add_zero] at own); (try rw [List.nil_append] at own); have O6 := Lib.hid own; have F6 := Lib.hid ((F5.out).trans hb); have E6 := Lib.hid (below_chain EB.out HB0 F6.out); have hz6 := F6.out.size; have x2 := keepB (p := ⟨ga.block, ga.off + 2, none⟩) F6.out hB0 a2; clear own hb hk hg hz)
            | (at_builtin; refine wp_appComb (by rfl) _ _ (by rfl) wo.heap.size _ _ _ _ (by rfl) (by exact O6.out) _ _ _ (argI c a 2) (by rfl) (by exact X2.out _ E6.out) (by omega) (by first | omega | (simp <;> omega)) ?_; intro A7 c7 w7 own hb hk hg hz; (try rw [Nat.zero_add] at own); (try rw [Nat.add_zero] at own); (try rw [List.nil_append] at own); have O7 := Lib.hid own; have F7 := Lib.hid ((F6.out).trans hb); have E7 := Lib.hid (below_chain EB.out HB0 F7.out); have hz7 := F7.out.size; skip; clear own hb hk hg hz)
            | (at_builtin; refine wp_appComb (by rfl) _ _ (by rfl) wo.heap.size _ _ _ _ (by rfl) (by exact O7.out) _ _ _ (c.drop z) (by rfl) (by exact XZ.out _ E7.out) (by omega) (by first | omega | (simp <;> omega)) ?_; intro A8 c8 w8 own hb hk hg hz; (try rw [Nat.zero_add] at own); (try rw [Nat.add_zero] at own); (try rw [List.nil_append] at own); have O8 := Lib.hid own; have F8 := Lib.hid ((F7.out).trans hb); have E8 := Lib.hid (below_chain EB.out HB0 F8.out); have hz8 := F8.out.size; skip; clear own hb hk hg hz))
          have HO := Lib.hid (show Own w8 wo.heap.size 100 2 A8 _ c8 (S.flatMap enc2) by rw [← HSS.out]; simpa [List.flatMap_append, List.append_assoc, enc2] using O8.out)
          have hcap := HO.out.cap
          have HR2 := Lib.hid HO.out.pairs
          have hsl := HR2.out.len
          have EE := Lib.hid E8.out
          go_wp2_with (go_at_call 175; refine (l12Comb_c _ _ _ S q _ HR2.out (by omega) HQ.out).mono ?_; rintro e w' ⟨rfl, hb⟩)
          go_ret2
          exact ⟨_, _, _, rfl, (HO.out.wrK.wider HB0 (Nat.le_refl _)).below hb |>.wider (Nat.le_refl _) hb.size, hsl, hcap, below_chain EE.out EE.out.size hb⟩
      · obtain rfl : z = cp := by omega
        have XZ := Lib.hid (show ∀ w', Below w.heap.size w w' → Rd2 w' (some ad) 0 (c.drop z) from fun w' hb => by
          rw [List.drop_eq_nil_of_le (by rw [HL.out]; omega)]; exact Rd2.none0)
        by_cases h3 : i < 3
        · have HSS := Lib.hid (show c.take k ++ argI c a 0 ++ c.drop z = S by rw [← HS.out, byC, if_pos h3, HA.out])
          clear HE HZ HS
          go_wp2_with (first
            | (at_builtin; refine wp_appComb (by rfl) _ _ (by rfl) wo.heap.size _ _ _ _ (by rfl) (by exact Own.litK (Nat.le_refl _)) _ _ _ (c.take k) (by rfl) (by exact XK.out _ (EB.out.alloc (by omega) _)) (by omega) (by first | omega | (simp <;> omega)) ?_; intro A1 c1 w1 own hb hk hg hz; (try rw [Nat.zero_add] at own); (try rw [Nat.add_zero] at own); (try rw [List.nil_append] at own); have O1 := Lib.hid own; have F1 := Lib.hid ((below_size.alloc (Nat.le_refl _) _).trans hb); have E1 := Lib.hid (below_chain EB.out HB0 F1.out); have hz1 := F1.out.size; have x0 := keepB F1.out hB0 a0; clear own hb hk hg hz)
            | (at_builtin; refine wp_appComb (by rfl) _ _ (by rfl) wo.heap.size _ _ _ _ (by rfl) (by exact O1.out) _ _ _ (argI c a 0) (by rfl) (by exact X0.out _ E1.out) (by omega) (by first | omega | (simp <;> omega)) ?_; intro A2 c2 w2 own hb hk hg hz; (try rw [Nat.zero_add] at own); (try rw [Nat.add_zero] at own); (try rw [List.nil_append] at own); have O2 := Lib.hid own; have F2 := Lib.hid ((F1.out).trans hb); have E2 := Lib.hid (below_chain EB.out HB0 F2.out); have hz2 := F2.out.size; skip; clear own hb hk hg hz)
            | (at_builtin; refine wp_appComb (by rfl) _ _ (by rfl) wo.heap.size _ _ _ _ (by rfl) (by exact O2.out) _ _ _ (c.drop z) (by rfl) (by exact XZ.out _ E2.out) (by omega) (by first | omega | (simp <;> omega)) ?_; intro A3 c3 w3 own hb hk hg hz; (try rw [Nat.zero_add] at own); (try rw [Nat.add_zero] at own); (try rw [List.nil_append] at own); have O3 := Lib.hid own; have F3 := Lib.hid ((F2.out).trans hb); have E3 := Lib.hid (below_chain EB.out HB0 F3.out); have hz3 := F3.out.size; skip; clear own hb hk hg hz))
          have HO := Lib.hid (show Own w3 wo.heap.size 100 2 A3 _ c3 (S.flatMap enc2) by rw [← HSS.out]; simpa [List.flatMap_append, List.append_assoc, enc2] using O3.out)
          have hcap := HO.out.cap
          have HR2 := Lib.hid HO.out.pairs
          have hsl := HR2.out.len
          have EE := Lib.hid E3.out
          go_wp2_with (go_at_call 175; refine (l12Comb_c _ _ _ S q _ HR2.out (by omega) HQ.out).mono ?_; rintro e w' ⟨rfl, hb⟩)
          go_ret2
          exact ⟨_, _, _, rfl, (HO.out.wrK.wider HB0 (Nat.le_refl _)).below hb |>.wider (Nat.le_refl _) hb.size, hsl, hcap, below_chain EE.out EE.out.size hb⟩
        · obtain rfl : i = 3 := by omega
          have HSS := Lib.hid (show c.take k ++ ([(0, 0), (0, 0)] ++ argI c a 0 ++ argI c a 2 ++ [(0, 0)] ++ argI c a 1 ++ argI c a 2) ++ c.drop z = S by rw [← HS.out, byC, if_neg h3, HA.out])
          obtain ⟨P1, l1, d1, hv1, hl1, hx1⟩ := HX.out 1 (by omega)
          obtain ⟨P2, l2, d2, hv2, hl2, hx2⟩ := HX.out 2 (by omega)
          have X1 := Lib.hid hx1; have X2 := Lib.hid hx2
          have a1 : wo.cell? ⟨ga.block, ga.off + 1, none⟩ = some (.slice (some P1) l1 d1) := by rw [← addr1, ← hv1]; exact WW.out 1 (by omega)
          have a2 : wo.cell? ⟨ga.block, ga.off + 2, none⟩ = some (.slice (some P2) l2 d2) := by rw [← addr2, ← hv2]; exact WW.out 2 (by omega)
          clear HE HZ HS hv1 hv2 hx1 hx2
          go_wp2_with (first
            | (at_builtin; refine wp_appComb (by rfl) _ _ (by rfl) wo.heap.size _ _ _ _ (by rfl) (by exact Own.litK (Nat.le_refl _)) _ _ _ (c.take k) (by rfl) (by exact XK.out _ (EB.out.alloc (by omega) _)) (by omega) (by first | omega | (simp <;> omega)) ?_; intro A1 c1 w1 own hb hk hg hz; (try rw [Nat.zero_add] at own); (try rw [Nat.add_zero] at own); (try rw [List.nil_append] at own); have O1 := Lib.hid own; have F1 := Lib.hid ((below_size.alloc (Nat.le_refl _) _).trans hb); have E1 := Lib.hid (below_chain EB.out HB0 F1.out); have hz1 := F1.out.size; skip; clear own hb hk hg hz)
            | (at_builtin; refine wp_appComb (by rfl) _ _ (by rfl) wo.heap.size _ _ _ _ (by rfl) (by exact O1.out.alloc _) _ _ _ ([(0, 0), (0, 0)]) (by rfl) (by exact rd_new2 [(0, 0), (0, 0)] _ rfl rfl) (by omega) (by first | omega | (simp <;> omega)) ?_; intro A2 c2 w2 own hb hk hg hz; (try rw [Nat.zero_add] at own); (try rw [Nat.add_zero] at own); (try rw [List.nil_append] at own); have O2 := Lib.hid own; have F2 := Lib.hid ((F1.out.alloc (by omega) _).trans hb); have E2 := Lib.hid (below_chain EB.out HB0 F2.out); have hz2 := F2.out.size; have x0 := keepB F2.out hB0 a0; clear own hb hk hg hz)
            | (at_builtin; refine wp_appComb (by rfl) _ _ (by rfl) wo.heap.size _ _ _ _ (by rfl) (by exact O2.out) _ _ _ (argI c a 0) (by rfl) (by exact X0.out _ E2.out) (by omega) (by first | omega | (simp <;> omega)) ?_; intro A3 c3 w3 own hb hk hg hz; (try rw [Nat.zero_add] at own); (try rw [Nat.add_zero] at own); (try rw [List.nil_append] at own); have O3 := Lib.hid own; have F3 := Lib.hid ((F2.out).trans hb); have E3 := Lib.hid (below_chain EB.out HB0 F3.out); have hz3 := F3.out.size; have x2 := keepB (p := ⟨ga.block, ga.off + 2, none⟩) F3.out hB0 a2; clear own hb hk hg hz)
            | (at_builtin; refine wp_appComb (by rfl) _ _ (by rfl) wo.heap.size _ _ _ _ (by rfl) (by exact O3.out) _ _ _ (argI c a 2) (by rfl) (by exact X2.out _ E3.out) (by omega) (by first | omega | (simp <;> omega)) ?_; intro A4 c4 w4 own hb hk hg hz; (try rw [Nat.zero_add] at own); (try rw [Nat.add_zero] at own); (try rw [List.nil_append] at own); have O4 := Lib.hid own; have F4 := Lib.hid ((F3.out).trans hb); have E4 := Lib.hid (below_chain EB.out HB0 F4.out); have hz4 := F4.out.size; skip; clear own hb hk hg hz)
            | (at_builtin; refine wp_appComb (by rfl) _ _ (by rfl) wo.heap.size _ _ _ _ (by rfl) (by exact O4.out.alloc _) _ _ _ ([(0, 0)]) (by rfl) (by exact rd_new2 [(0, 0)] _ rfl rfl) (by omega) (by first | omega | (simp <;> omega)) ?_; intro A5 c5 w5 own hb hk hg hz; (try rw [Nat.zero_add] at own); (try rw [Nat.add_zero] at own); (try rw [List.nil_append] at own); have O5 := Lib.hid own; have F5 := Lib.hid ((F4.out.alloc (by omega) _).trans hb); have E5 := Lib.hid (below_chain EB.out HB0 F5.out); have hz5 := F5.out.size; have x1 := keepB (p := ⟨ga.block, ga.off + 1, none⟩) F5.out hB0 a1; clear own hb hk hg hz)
            | (at_builtin; refine wp_appComb (by rfl) _ _ (by rfl) wo.heap.size _ _ _ _ (by rfl) (by exact O5.out) _ _ _ (argI c a 1) (by rfl) (by exact X1.out _ E5.out) (by omega) (by first | omega | (simp <;> omega)) ?_; intro A6 c6 w6 own hb hk hg hz; (try rw [Nat.zero_add] at own); (try rw [Nat.add_zero] at own); (try rw [List.nil_append] at own); have O6 := Lib.hid own; have F6 := Lib.hid ((F5.out).trans hb); have E6 := Lib.hid (below_chain EB.out HB0 F6.out); have hz6 := F6.out.size; have x2 := keepB (p := ⟨ga.block, ga.off + 2, none⟩) F6.out hB0 a2; clear own hb hk hg hz)
            | (at_builtin; refine wp_appComb (by rfl) _ _ (by rfl) wo.heap.size _ _ _ _ (by rfl) (by exact O6.out) _ _ _ (argI c a 2) (by rfl) (by exact X2.out _ E6.out) (by omega) (by first | omega | (simp <;> omega)) ?_; intro A7 c7 w7 own hb hk hg hz; (try rw [Nat.zero_add] at own); (try rw [Nat.add_zero] at own); (try rw [List.nil_append] at own); have O7 := Lib.hid own; have F7 := Lib.hid ((F6.out).trans hb); have E7 := Lib.hid (below_chain EB.out HB0 F7.out); have hz7 := F7.out.size; skip; clear own hb hk hg hz)
            | (at_builtin; refine wp_appComb (by rfl) _ _ (by rfl) wo.heap.size _ _ _ _ (by rfl) (by exact O7.out) _ _ _ (c.drop z) (by rfl) (by exact XZ.out _ E7.out) (by omega) (by first | omega | (simp <;> omega)) ?_; intro A8 c8 w8 own hb hk hg hz; (try rw [Nat.zero_add] at own); (try rw [Nat.add_zero] at own); (try rw [List.nil_append] at own); have O8 := Lib.hid own; have F8 := Lib.hid ((F7.out).trans hb); have E8 := Lib.hid (below_chain EB.out HB0 F8.out); have hz8 := F8.out.size; skip; clear own hb hk hg hz))
          have HO := Lib.hid (show Own w8 wo.heap.size 100 2 A8 _ c8 (S.flatMap enc2) by rw [← HSS.out]; simpa [List.flatMap_append, List.append_assoc, enc2] using O8.out)
          have hcap := HO.out.cap
          have HR2 := Lib.hid HO.out.pairs
          have hsl := HR2.out.len
          have EE := Lib.hid E8.out
          go_wp2_with (go_at_call 175; refine (l12Comb_c _ _ _ S q _ HR2.out (by omega) HQ.out).mono ?_; rintro e w' ⟨rfl, hb⟩)
          go_ret2
          exact ⟨_, _, _, rfl, (HO.out.wrK.wider HB0 (Nat.le_refl _)).below hb |>.wider (Nat.le_refl _) hb.size, hsl, hcap, below_chain EE.out EE.out.size hb⟩
end Go.Proofs.YtebjpmmgdkepjaaGreatDoor
