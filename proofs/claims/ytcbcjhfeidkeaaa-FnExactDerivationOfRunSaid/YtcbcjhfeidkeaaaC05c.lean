/-
  Contracts of chapter 5: valid configurations.
-/
import Derived.Test.YtcbcjhfeidkeaaaC05b
namespace Go.Proofs.Ytcbcjhfeidkeaaa
open Go.RowKit

def lastB (xs : List Int) : Bool := xs.length == 0 || xs.getD (xs.length - 1) 0 != 0
def sideB (sy most : Int) (xs : List Int) : Bool := decide ((xs.length : Int) ≤ most) && allB 0 (sy - 1) xs && lastB xs
def confB (sy st s : Int) (xs ys : List Int) : Bool := inB s 0 (st - 1) && sideB sy 200 xs && sideB sy 200 ys
/-- a configuration behind a pointer -/
structure ConfP (w : World) (g : Nat) (s : Int) (A : Option Addr) (n cp : Nat) (xs : List Int) (A' : Option Addr) (n' cp' : Nat) (ys : List Int) : Prop where
  c0 : w.cell? ⟨g, 0, none⟩ = some (i64 s)
  c1 : w.cell? ⟨g, 1, none⟩ = some (.slice A n cp)
  c2 : w.cell? ⟨g, 2, none⟩ = some (.slice A' n' cp')
  rd : RdI w A n xs
  rd' : RdI w A' n' ys
theorem ConfP.below {w w' : World} {g : Nat} {s : Int} {A : Option Addr} {n cp : Nat} {xs : List Int} {A' : Option Addr} {n' cp' : Nat} {ys : List Int} (h : ConfP w g s A n cp xs A' n' cp' ys) (hb : Below w.heap.size w w') : ConfP w' g s A n cp xs A' n' cp' ys :=
  ⟨keepc hb h.c0, keepc hb h.c1, keepc hb h.c2, h.rd.below hb, h.rd'.below hb⟩
theorem ConfP.drewN {w : World} {g : Nat} {s : Int} {A : Option Addr} {n cp : Nat} {xs : List Int} {A' : Option Addr} {n' cp' : Nat} {ys : List Int} (h : ConfP w g s A n cp xs A' n' cp' ys) (m : Nat) : ConfP (w.drewN m) g s A n cp xs A' n' cp' ys := h.below (below_drewN below_size m)
theorem MachP.drewN {w : World} {g : Nat} {sy st : Int} {A : Option Addr} {n cp : Nat} {rs : List Rule3} (h : MachP w g sy st A n cp rs) (m : Nat) : MachP (w.drewN m) g sy st A n cp rs := h.below (below_drewN below_size m)
theorem getD_at {xs : List Int} {k : Nat} {x : Int} (h : xs[k]? = some x) : xs.getD k 0 = x := by rw [List.getD_eq_getElem?_getD, h]; rfl

set_option maxHeartbeats 2000000 in
theorem validSide_c (A : Option Addr) (n cp : Nat) (xs : List Int) (sy most : Int) (q : Bool) (w : World) (h : RdI w A n xs) (hn : n ≤ 1000000000) (hsy : 2 ≤ sy ∧ sy ≤ 6) (hmo : 0 ≤ most ∧ most ≤ 1000000) (hq : sideB sy most xs = q) :
    Calls Try.prog 79 #[.slice A n cp, .int .i64 sy, .int .i64 most] w fun e w' => e = .returned (.bool q) ∧ w = w' := by
  have HL := Lib.hid h.len
  have H := Lib.hid h
  have HQ := Lib.hid (show (decide ((n : Int) ≤ most) && allB 0 (sy - 1) xs && lastB xs) = q by rw [← hq, sideB, HL.out]); clear h hq
  obtain ⟨hsy0, hsy1⟩ := hsy
  obtain ⟨hmo0, hmo1⟩ := hmo
  by_cases i1 : (n : Int) ≤ most
  · have d1 : decide ((n : Int) ≤ most) = true := by simpa using i1
    cases i2 : allB 0 (sy - 1) xs
    · have HF := Lib.hid (show false = q by rw [← HQ.out, i2]; simp)
      go_enter Try.func79, Try.ntmps79
      go_wp2_with (first | (go_at_call 94; refine (sizeI_c _ _ _ _ (by omega)).mono ?_; rintro e w' ⟨rfl, rfl⟩) | (go_at_call 88; refine (allWithin_b _ _ _ xs _ _ _ i2 _ (by exact H.out) (by omega)).mono ?_; rintro e w' ⟨rfl, rfl⟩))
      go_ret
      exact ⟨by rw [← HF.out]; rfl, rfl⟩
    by_cases hn0 : n = 0
    · have HF := Lib.hid (show true = q by rw [← HQ.out, i2, d1]; simp [lastB, HL.out, hn0])
      subst hn0
      go_enter Try.func79, Try.ntmps79
      go_wp2_with (first | (go_at_call 94; refine (sizeI_c _ _ _ _ (by omega)).mono ?_; rintro e w' ⟨rfl, rfl⟩) | (go_at_call 88; refine (allWithin_b _ _ _ xs _ _ _ i2 _ (by exact H.out) (by omega)).mono ?_; rintro e w' ⟨rfl, rfl⟩))
      go_ret
      exact ⟨by rw [← HF.out]; rfl, rfl⟩
    · obtain ⟨ad, x, rfl, hab, hx, hc⟩ := H.out.at_ (k := n - 1) (by omega)
      have HF := Lib.hid (show (x != 0) = q by rw [← HQ.out, i2, d1, lastB, HL.out, getD_at hx]; simp [hn0])
      have g0 : ((n : Int) == 0) = false := by simp; omega
      have g0' : (n == 0) = false := by simp; omega
      obtain ⟨u, hu⟩ : ∃ u, (x != 0) = u := ⟨_, rfl⟩
      have HU := Lib.hid (show u = q by rw [← HF.out, hu])
      clear hx HF
      go_enter Try.func79, Try.ntmps79
      go_wp2_with (first | (go_at_call 94; refine (sizeI_c _ _ _ _ (by omega)).mono ?_; rintro e w' ⟨rfl, rfl⟩) | (go_at_call 88; refine (allWithin_b _ _ _ xs _ _ _ i2 _ (by exact H.out) (by omega)).mono ?_; rintro e w' ⟨rfl, rfl⟩))
      go_ret
      exact ⟨by rw [← HU.out]; rfl, rfl⟩
  · have d1 : decide ((n : Int) ≤ most) = false := by simpa using i1
    have HF := Lib.hid (show false = q by rw [← HQ.out, d1]; simp)
    go_enter Try.func79, Try.ntmps79
    go_wp2_with (go_at_call 94; refine (sizeI_c _ _ _ _ (by omega)).mono ?_; rintro e w' ⟨rfl, rfl⟩)
    go_ret
    exact ⟨by rw [← HF.out]; rfl, rfl⟩
set_option maxHeartbeats 2000000 in
theorem configOf_c (sy st : Int) (B : Option Addr) (m d : Nat) (s : Int) (A : Option Addr) (n cp : Nat) (xs : List Int) (A' : Option Addr) (n' cp' : Nat) (ys : List Int) (q : Bool) (w : World) (h : RdI w A n xs) (h' : RdI w A' n' ys) (hn : n ≤ 1000000000) (hn' : n' ≤ 1000000000)
    (hsy : 2 ≤ sy ∧ sy ≤ 6) (hst : 1 ≤ st ∧ st ≤ 1000) (hq : confB sy st s xs ys = q) :
    Calls Try.prog 63 #[.agg #[.int .i64 sy, .int .i64 st, .slice B m d], .agg #[.int .i64 s, .slice A n cp, .slice A' n' cp']] w fun e w' => e = .returned (.bool q) ∧ Below w.heap.size w w' := by
  have H := Lib.hid h; have H' := Lib.hid h'; have HQ := Lib.hid (show (inB s 0 (st - 1) && sideB sy 200 xs && sideB sy 200 ys) = q by rw [← hq, confB]); clear h h' hq
  obtain ⟨hst0, hst1⟩ := hst
  obtain ⟨u1, i1⟩ : ∃ u, inB s 0 (st - 1) = u := ⟨_, rfl⟩
  obtain ⟨u2, i2⟩ : ∃ u, sideB sy 200 xs = u := ⟨_, rfl⟩
  obtain ⟨u3, i3⟩ : ∃ u, sideB sy 200 ys = u := ⟨_, rfl⟩
  rw [i1, i2, i3] at HQ
  have B0 := Lib.hid (show Below w.heap.size w ((w.alloc (.cells #[.int .i64 sy, .int .i64 st, .slice B m d] 35)).alloc (.cells #[.int .i64 s, .slice A n cp, .slice A' n' cp'] 30)) from (below_size.alloc (Nat.le_refl _) _).alloc (by simp) _)
  cases u1
  · go_enter Try.func63, Try.ntmps63
    go_wp2_with fail
    refine (within_b _ _ _ _ i1 _).mono ?_
    rintro e w' ⟨rfl, rfl⟩
    go_wp2_with fail
    go_ret
    exact ⟨by rw [← HQ.out]; simp, B0.out⟩
  cases u2
  · go_enter Try.func63, Try.ntmps63
    go_wp2_with fail
    refine (within_b _ _ _ _ i1 _).mono ?_
    rintro e w' ⟨rfl, rfl⟩
    go_wp2_with fail
    refine (validSide_c A n cp xs _ _ _ _ (RdI.below H.out B0.out) hn hsy (by omega) i2).mono ?_
    rintro e w' ⟨rfl, rfl⟩
    go_wp2_with fail
    go_ret
    exact ⟨by rw [← HQ.out]; simp, B0.out⟩
  · go_enter Try.func63, Try.ntmps63
    go_wp2_with fail
    refine (within_b _ _ _ _ i1 _).mono ?_
    rintro e w' ⟨rfl, rfl⟩
    go_wp2_with fail
    refine (validSide_c A n cp xs _ _ _ _ (RdI.below H.out B0.out) hn hsy (by omega) i2).mono ?_
    rintro e w' ⟨rfl, rfl⟩
    go_wp2_with fail
    refine (validSide_c A' n' cp' ys _ _ _ _ (RdI.below H'.out B0.out) hn' hsy (by omega) i3).mono ?_
    rintro e w' ⟨rfl, rfl⟩
    go_wp2_with fail
    go_ret
    exact ⟨by rw [← HQ.out]; simp, B0.out⟩
set_option maxHeartbeats 2000000 in
set_option maxRecDepth 100000 in
theorem l05Cells_c (g : Nat) (sy : Int) (A : Option Addr) (n cp : Nat) (xs : List Int) (q : Bool) (w : World) (h0 : w.cell? ⟨g, 0, none⟩ = some (i64 sy)) (h : RdI w A n xs) (hn : n ≤ 1000000000) (hsy : 2 ≤ sy ∧ sy ≤ 6) (hq : sideB sy 200 xs = q) :
    Calls Try.prog 50 #[.pointer (some ⟨g, 0, none⟩), .slice A n cp] w fun e w' => e = .returned (.bool q) ∧ Qt w w' := by
  have HL := Lib.hid h.len
  have H := Lib.hid h
  have HQ := Lib.hid (show (decide ((n : Int) ≤ 200) && allB 0 (sy - 1) xs && lastB xs) = q by rw [← hq, sideB, HL.out]); clear h hq
  obtain ⟨hsy0, hsy1⟩ := hsy
  go_enter Try.func50, Try.ntmps50
  go_wp2_with fail
  go_loopw [5] (fun iv wr => ∃ k : Nat, k ≤ n ∧ iv = .int .i64 k ∧ Hid (allB 0 (sy - 1) xs = allB 0 (sy - 1) (xs.drop k)) ∧ Qt w wr) (fun iv _ => n - (intOf iv).toNat)
  case atStart => exact ⟨0, by omega, rfl, rfl, (by first | exact Qt.refl _ | exact ⟨_, rfl⟩ | exact Qt.drewN ⟨_, rfl⟩ _)⟩
  case round =>
    obtain ⟨k, hk, rfl, hr, hq⟩ := hrel
    obtain ⟨m, rfl⟩ := hq
    by_cases hlt : k < n
    · obtain ⟨ad, y, rfl, hab, hy, hcy⟩ := H.out.at_ hlt
      have Hy := Lib.hid hy; clear hy
      cases hin : inB y 0 (sy - 1)
      · have HE := Lib.hid (show false = q by rw [← HQ.out, hr.out, drop_at Hy.out, allB, hin]; simp)
        clear hr
        go_wp2_with fail
        go_quiet (first | (go_at_call 46; first | exact quiet_left (l00In_b _ _ _ _ (by assumption) _) | exact quiet_add_left (l00In_b _ _ _ _ (by assumption) _)))
        go_wp2_with fail
        go_ret
        exact ⟨by rw [← HE.out]; rfl, (by first | exact Qt.refl _ | exact ⟨_, rfl⟩ | exact Qt.drewN ⟨_, rfl⟩ _)⟩
      · have HE := Lib.hid (show allB 0 (sy - 1) xs = allB 0 (sy - 1) (xs.drop (k + 1)) by rw [hr.out, drop_at Hy.out, allB, hin]; rfl)
        clear hr
        go_wp2_with fail
        go_quiet (first | (go_at_call 46; first | exact quiet_left (l00In_b _ _ _ _ (by assumption) _) | exact quiet_add_left (l00In_b _ _ _ _ (by assumption) _)))
        go_wp2_with fail
        go_roundw
        case rel => exact ⟨k + 1, by omega, by go_num, HE.out, (by first | exact Qt.refl _ | exact ⟨_, rfl⟩ | exact Qt.drewN ⟨_, rfl⟩ _)⟩
        case measure => simp [intOf]; omega
    · have HA := Lib.hid (show allB 0 (sy - 1) xs = true by rw [hr.out, List.drop_eq_nil_of_le (by rw [HL.out]; omega)]; rfl)
      clear hr
      by_cases i1 : (n : Int) ≤ 200
      · have d1 : decide ((n : Int) ≤ 200) = true := by simpa using i1
        by_cases hn0 : n = 0
        · have HF := Lib.hid (show true = q by rw [← HQ.out, HA.out, d1]; simp [lastB, HL.out, hn0])
          have g0 : ((n : Int) == 0) = true := by simp; omega
          have g0' : (n == 0) = true := by simp; omega
          go_wp2_with fail
          go_ret
          exact ⟨by rw [← HF.out]; rfl, (by first | exact Qt.refl _ | exact ⟨_, rfl⟩ | exact Qt.drewN ⟨_, rfl⟩ _)⟩
        · obtain ⟨ad, x, rfl, hab, hx, hc⟩ := H.out.at_ (k := n - 1) (by omega)
          have HF := Lib.hid (show (x != 0) = q by rw [← HQ.out, HA.out, d1, lastB, HL.out, getD_at hx]; simp [hn0])
          have g0 : ((n : Int) == 0) = false := by simp; omega
          have g0' : (n == 0) = false := by simp; omega
          obtain ⟨u, hu⟩ : ∃ u, (x != 0) = u := ⟨_, rfl⟩
          have HU := Lib.hid (show u = q by rw [← HF.out, hu])
          clear hx HF
          go_wp2_with fail
          go_ret
          exact ⟨by rw [← HU.out]; rfl, (by first | exact Qt.refl _ | exact ⟨_, rfl⟩ | exact Qt.drewN ⟨_, rfl⟩ _)⟩
      · have d1 : decide ((n : Int) ≤ 200) = false := by simpa using i1
        have HF := Lib.hid (show false = q by rw [← HQ.out, d1]; simp)
        go_wp2_with fail
        go_ret
        exact ⟨by rw [← HF.out]; rfl, (by first | exact Qt.refl _ | exact ⟨_, rfl⟩ | exact Qt.drewN ⟨_, rfl⟩ _)⟩
set_option maxHeartbeats 2000000 in
theorem l05Good_c (g : Nat) (sy st : Int) (B : Option Addr) (m d : Nat) (rs : List Rule3) (g' : Nat) (s : Int) (A : Option Addr) (n cp : Nat) (xs : List Int) (A' : Option Addr) (n' cp' : Nat) (ys : List Int) (q : Bool) (w : World) (h : MachP w g sy st B m d rs) (h' : ConfP w g' s A n cp xs A' n' cp' ys)
    (hsy : 2 ≤ sy ∧ sy ≤ 6) (hst : 1 ≤ st ∧ st ≤ 1000) (hn : n ≤ 1000000000) (hn' : n' ≤ 1000000000) (hq : confB sy st s xs ys = q) :
    Calls Try.prog 27 #[.pointer (some ⟨g, 0, none⟩), .pointer (some ⟨g', 0, none⟩)] w fun e w' => e = .returned (.bool q) ∧ Qt w w' := by
  have h0 := h.c0; have h1 := h.c1
  have k0 := h'.c0; have k1 := h'.c1; have k2 := h'.c2
  have H := Lib.hid h; have H' := Lib.hid h'; have HQ := Lib.hid (show (inB s 0 (st - 1) && sideB sy 200 xs && sideB sy 200 ys) = q by rw [← hq, confB]); clear h h' hq
  obtain ⟨hst0, hst1⟩ := hst
  obtain ⟨u1, i1⟩ : ∃ u, inB s 0 (st - 1) = u := ⟨_, rfl⟩
  obtain ⟨u2, i2⟩ : ∃ u, sideB sy 200 xs = u := ⟨_, rfl⟩
  obtain ⟨u3, i3⟩ : ∃ u, sideB sy 200 ys = u := ⟨_, rfl⟩
  rw [i1, i2, i3] at HQ
  rcases chain4 u1 u2 u3 u3 with rfl | ⟨rfl, rfl⟩ | ⟨rfl, rfl, rfl⟩ | ⟨rfl, rfl, rfl⟩
  all_goals
    go_enter Try.func27, Try.ntmps27
    go_wp2_with fail
    go_quiet (first | (go_at_call 46; first | exact quiet_left (l00In_b _ _ _ _ i1 _) | exact quiet_add_left (l00In_b _ _ _ _ i1 _)) | (go_at_call 50; first | exact Calls.quiet_of (l05Cells_c _ _ _ _ _ _ _ _ (by exact h0) (by first | exact H'.out.rd | exact H'.out.rd') (by assumption) hsy (by assumption)) | exact quiet_add (l05Cells_c _ _ _ _ _ _ _ _ (by exact h0) (by first | exact H'.out.rd | exact H'.out.rd') (by assumption) hsy (by assumption))))
    go_wp2_with fail
    go_ret
    exact ⟨by rw [← HQ.out]; simp, (by first | exact Qt.refl _ | exact ⟨_, rfl⟩ | exact Qt.drewN ⟨_, rfl⟩ _)⟩
end Go.Proofs.Ytcbcjhfeidkeaaa
