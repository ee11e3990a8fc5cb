/-
  Contracts of chapter 11 (recursive functions): nodes, of the reference and of the program.
-/
import Derived.Test.YtnoapoaajidncaaDoorPFr
import Derived.Test.YtnoapoaajidncaaDoorLawFunc
import Derived.Test.YtnoapoaajidncaaDoorApp
namespace Go.Proofs.YtnoapoaajidncaaDoor
open Go.RowKit

theorem nodeF_bd {x : Nd3} (h : nodeF x = true) : (0 ≤ x.1 ∧ x.1 ≤ 5) ∧ (0 ≤ x.2.1 ∧ x.2.1 ≤ 4) ∧ (0 ≤ x.2.2 ∧ x.2.2 ≤ 4) := by
  obtain ⟨k, a, i⟩ := x
  unfold nodeF at h
  simp only at h ⊢
  by_cases h0 : k = 0
  · subst h0; simp at h; have := inB_t h.1; omega
  by_cases h1 : k = 1
  · subst h1; simp at h; omega
  by_cases h2 : k = 2
  · subst h2; simp at h; have := inB_t h.1; have := inB_t h.2; omega
  by_cases h3 : k = 3
  · subst h3; simp at h; have := inB_t h.1; have := inB_t h.2; omega
  by_cases h4 : k = 4
  · subst h4; simp at h; have := inB_t h.1; omega
  by_cases h5 : k = 5
  · subst h5; simp at h; have := inB_t h.1; omega
  rw [if_neg h0, if_neg h1, if_neg h2, if_neg h3, if_neg h4, if_neg h5] at h; cases h
theorem l11Many_c (p : Addr) (x : Nd3) (m : Nat) (w : World) (h0 : w.cell? p = some (i64 x.1)) (h2 : w.cell? ⟨p.block, p.off + 2, none⟩ = some (i64 x.2.2)) (hx : nodeF x = true) (hm : manyF x = m) :
    Calls Tryd.prog 48 #[.pointer (some p)] w fun e w' => e = .returned (.int .i64 m) ∧ w = w' := by
  have hb := nodeF_bd hx
  clear hx
  obtain ⟨k, a, i⟩ := x
  simp only at h0 h2 hb
  obtain ⟨hb1, hb2, hb3⟩ := hb
  unfold manyF folF at hm
  simp only at hm
  by_cases k3 : k = 3
  · subst k3
    have HM := Lib.hid (show (i : Int) + 1 = (m : Int) by rw [← hm]; simp; omega)
    clear hm
    go_enter Tryd.func48, Tryd.ntmps48
    go_wp2_with fail
    go_ret
    exact ⟨by rw [← HM.out]; go_num, rfl⟩
  have g3 : (k == 3) = false := by simpa using k3
  by_cases k4 : k = 4
  · subst k4
    have HM := Lib.hid (show 2 = m by rw [← hm]; rfl)
    clear hm
    go_enter Tryd.func48, Tryd.ntmps48
    go_wp2_with fail
    go_ret
    exact ⟨by rw [← HM.out]; rfl, rfl⟩
  have g4 : (k == 4) = false := by simpa using k4
  by_cases k5 : k = 5
  · subst k5
    have HM := Lib.hid (show 1 = m by rw [← hm]; rfl)
    clear hm
    go_enter Tryd.func48, Tryd.ntmps48
    go_wp2_with fail
    go_ret
    exact ⟨by rw [← HM.out]; rfl, rfl⟩
  have g5 : (k == 5) = false := by simpa using k5
  have HM := Lib.hid (show 0 = m by rw [← hm, if_neg k3, if_neg k4, if_neg k5]; rfl)
  clear hm k3 k4 k5
  go_enter Tryd.func48, Tryd.ntmps48
  go_wp2_with fail
  go_ret
  exact ⟨by rw [← HM.out]; rfl, rfl⟩
set_option maxHeartbeats 2000000 in
set_option maxRecDepth 100000 in
theorem l11Node_c (p : Addr) (x : Nd3) (q : Bool) (w : World) (h0 : w.cell? p = some (i64 x.1)) (h1 : w.cell? ⟨p.block, p.off + 1, none⟩ = some (i64 x.2.1)) (h2 : w.cell? ⟨p.block, p.off + 2, none⟩ = some (i64 x.2.2)) (hq : nodeF x = q) :
    Calls Tryd.prog 56 #[.pointer (some p)] w fun e w' => e = .returned (.bool q) ∧ Qt w w' := by
  obtain ⟨k, a, i⟩ := x
  unfold nodeF at hq
  simp only at h0 h1 h2 hq
  by_cases k0 : k = 0
  · subst k0
    rw [if_pos rfl] at hq
    cases ea : inB a 0 4
    · have HG := Lib.hid (show false = q by rw [← hq, ea]; rfl)
      clear hq
      go_enter Tryd.func56, Tryd.ntmps56
      go_wp2_with (first | (go_at_call 63; refine (l00In_b _ _ _ _ (by assumption) _).mono ?_; rintro e w' ⟨rfl, rfl⟩))
      go_ret
      exact ⟨by rw [← HG.out]; rfl, (by first | exact Qt.refl _ | exact ⟨_, rfl⟩ | exact Qt.drewN ⟨_, rfl⟩ _)⟩
    by_cases hi : i = 0
    · subst hi
      have HG := Lib.hid (show true = q by rw [← hq, ea]; rfl)
      clear hq
      go_enter Tryd.func56, Tryd.ntmps56
      go_wp2_with (first | (go_at_call 63; refine (l00In_b _ _ _ _ (by assumption) _).mono ?_; rintro e w' ⟨rfl, rfl⟩))
      go_ret
      exact ⟨by rw [← HG.out]; rfl, (by first | exact Qt.refl _ | exact ⟨_, rfl⟩ | exact Qt.drewN ⟨_, rfl⟩ _)⟩
    · have gi : (i == 0) = false := by simpa using hi
      have HG := Lib.hid (show false = q by rw [← hq, ea]; simpa using hi)
      clear hq hi
      go_enter Tryd.func56, Tryd.ntmps56
      go_wp2_with (first | (go_at_call 63; refine (l00In_b _ _ _ _ (by assumption) _).mono ?_; rintro e w' ⟨rfl, rfl⟩))
      go_ret
      exact ⟨by rw [← HG.out]; rfl, (by first | exact Qt.refl _ | exact ⟨_, rfl⟩ | exact Qt.drewN ⟨_, rfl⟩ _)⟩
  rw [if_neg k0] at hq
  have g0 : (k == 0) = false := by simpa using k0
  by_cases k1 : k = 1
  · subst k1
    rw [if_pos rfl] at hq
    clear g0
    by_cases ha : a = 1
    · subst ha
      by_cases hi : i = 0
      · subst hi
        have HG := Lib.hid (show true = q by rw [← hq]; rfl)
        clear hq
        go_enter Tryd.func56, Tryd.ntmps56
        go_wp2_with (first | (go_at_call 63; refine (l00In_b _ _ _ _ (by assumption) _).mono ?_; rintro e w' ⟨rfl, rfl⟩))
        go_ret
        exact ⟨by rw [← HG.out]; rfl, (by first | exact Qt.refl _ | exact ⟨_, rfl⟩ | exact Qt.drewN ⟨_, rfl⟩ _)⟩
      · have gi : (i == 0) = false := by simpa using hi
        have HG := Lib.hid (show false = q by rw [← hq]; simpa using hi)
        clear hq hi
        go_enter Tryd.func56, Tryd.ntmps56
        go_wp2_with (first | (go_at_call 63; refine (l00In_b _ _ _ _ (by assumption) _).mono ?_; rintro e w' ⟨rfl, rfl⟩))
        go_ret
        exact ⟨by rw [← HG.out]; rfl, (by first | exact Qt.refl _ | exact ⟨_, rfl⟩ | exact Qt.drewN ⟨_, rfl⟩ _)⟩
    · have ga : (a == 1) = false := by simpa using ha
      have HG := Lib.hid (show false = q by rw [← hq]; simp [ha])
      clear hq ha
      go_enter Tryd.func56, Tryd.ntmps56
      go_wp2_with (first | (go_at_call 63; refine (l00In_b _ _ _ _ (by assumption) _).mono ?_; rintro e w' ⟨rfl, rfl⟩))
      go_ret
      exact ⟨by rw [← HG.out]; rfl, (by first | exact Qt.refl _ | exact ⟨_, rfl⟩ | exact Qt.drewN ⟨_, rfl⟩ _)⟩
  rw [if_neg k1] at hq
  have g1 : (k == 1) = false := by simpa using k1
  by_cases k2 : k = 2
  · subst k2
    rw [if_pos rfl] at hq
    clear g0 g1
    cases ea : inB a 1 4
    · have HG := Lib.hid (show false = q by rw [← hq, ea]; rfl)
      clear hq
      go_enter Tryd.func56, Tryd.ntmps56
      go_wp2_with (first | (go_at_call 63; refine (l00In_b _ _ _ _ (by assumption) _).mono ?_; rintro e w' ⟨rfl, rfl⟩))
      go_quiet (first | (go_at_call 63; first | exact quiet_left (l00In_b _ _ _ _ (by assumption) _) | exact quiet_add_left (l00In_b _ _ _ _ (by assumption) _)))
      go_wp2_with fail
      go_ret
      exact ⟨by rw [← HG.out]; rfl, (by first | exact Qt.refl _ | exact ⟨_, rfl⟩ | exact Qt.drewN ⟨_, rfl⟩ _)⟩
    · have hab := inB_t ea
      have HG := Lib.hid (show inB i 0 (a - 1) = q by rw [← hq, ea]; rfl)
      cases ei : inB i 0 (a - 1)
      all_goals
        rw [ei] at HG
        clear hq
        go_enter Tryd.func56, Tryd.ntmps56
        go_wp2_with (first | (go_at_call 63; refine (l00In_b _ _ _ _ (by assumption) _).mono ?_; rintro e w' ⟨rfl, rfl⟩))
        go_quiet (first | (go_at_call 63; first | exact quiet_left (l00In_b _ _ _ _ (by assumption) _) | exact quiet_add_left (l00In_b _ _ _ _ (by assumption) _)))
        go_wp2_with fail
        go_ret
        exact ⟨by rw [← HG.out]; rfl, (by first | exact Qt.refl _ | exact ⟨_, rfl⟩ | exact Qt.drewN ⟨_, rfl⟩ _)⟩
  rw [if_neg k2] at hq
  have g2 : (k == 2) = false := by simpa using k2
  by_cases k3 : k = 3
  · subst k3
    rw [if_pos rfl] at hq
    clear g0 g1 g2
    cases ea : inB a 0 4
    · have HG := Lib.hid (show false = q by rw [← hq, ea]; rfl)
      clear hq
      go_enter Tryd.func56, Tryd.ntmps56
      go_wp2_with (first | (go_at_call 63; refine (l00In_b _ _ _ _ (by assumption) _).mono ?_; rintro e w' ⟨rfl, rfl⟩))
      go_ret
      exact ⟨by rw [← HG.out]; rfl, (by first | exact Qt.refl _ | exact ⟨_, rfl⟩ | exact Qt.drewN ⟨_, rfl⟩ _)⟩
    · have HG := Lib.hid (show inB i 1 4 = q by rw [← hq, ea]; rfl)
      cases ei : inB i 1 4
      all_goals
        rw [ei] at HG
        clear hq
        go_enter Tryd.func56, Tryd.ntmps56
        go_wp2_with (first | (go_at_call 63; refine (l00In_b _ _ _ _ (by assumption) _).mono ?_; rintro e w' ⟨rfl, rfl⟩))
        go_ret
        exact ⟨by rw [← HG.out]; rfl, (by first | exact Qt.refl _ | exact ⟨_, rfl⟩ | exact Qt.drewN ⟨_, rfl⟩ _)⟩
  rw [if_neg k3] at hq
  have g3 : (k == 3) = false := by simpa using k3
  by_cases k4 : k = 4
  · subst k4
    rw [if_pos rfl] at hq
    clear g0 g1 g2 g3
    cases ea : inB a 1 3
    · have HG := Lib.hid (show false = q by rw [← hq, ea]; rfl)
      clear hq
      go_enter Tryd.func56, Tryd.ntmps56
      go_wp2_with (first | (go_at_call 63; refine (l00In_b _ _ _ _ (by assumption) _).mono ?_; rintro e w' ⟨rfl, rfl⟩))
      go_ret
      exact ⟨by rw [← HG.out]; rfl, (by first | exact Qt.refl _ | exact ⟨_, rfl⟩ | exact Qt.drewN ⟨_, rfl⟩ _)⟩
    by_cases hi : i = 0
    · subst hi
      have HG := Lib.hid (show true = q by rw [← hq, ea]; rfl)
      clear hq
      go_enter Tryd.func56, Tryd.ntmps56
      go_wp2_with (first | (go_at_call 63; refine (l00In_b _ _ _ _ (by assumption) _).mono ?_; rintro e w' ⟨rfl, rfl⟩))
      go_ret
      exact ⟨by rw [← HG.out]; rfl, (by first | exact Qt.refl _ | exact ⟨_, rfl⟩ | exact Qt.drewN ⟨_, rfl⟩ _)⟩
    · have gi : (i == 0) = false := by simpa using hi
      have HG := Lib.hid (show false = q by rw [← hq, ea]; simpa using hi)
      clear hq hi
      go_enter Tryd.func56, Tryd.ntmps56
      go_wp2_with (first | (go_at_call 63; refine (l00In_b _ _ _ _ (by assumption) _).mono ?_; rintro e w' ⟨rfl, rfl⟩))
      go_ret
      exact ⟨by rw [← HG.out]; rfl, (by first | exact Qt.refl _ | exact ⟨_, rfl⟩ | exact Qt.drewN ⟨_, rfl⟩ _)⟩
  rw [if_neg k4] at hq
  have g4 : (k == 4) = false := by simpa using k4
  by_cases k5 : k = 5
  · subst k5
    rw [if_pos rfl] at hq
    clear g0 g1 g2 g3 g4
    cases ea : inB a 0 3
    · have HG := Lib.hid (show false = q by rw [← hq, ea]; rfl)
      clear hq
      go_enter Tryd.func56, Tryd.ntmps56
      go_wp2_with (first | (go_at_call 63; refine (l00In_b _ _ _ _ (by assumption) _).mono ?_; rintro e w' ⟨rfl, rfl⟩))
      go_ret
      exact ⟨by rw [← HG.out]; rfl, (by first | exact Qt.refl _ | exact ⟨_, rfl⟩ | exact Qt.drewN ⟨_, rfl⟩ _)⟩
    by_cases hi : i = 0
    · subst hi
      have HG := Lib.hid (show true = q by rw [← hq, ea]; rfl)
      clear hq
      go_enter Tryd.func56, Tryd.ntmps56
      go_wp2_with (first | (go_at_call 63; refine (l00In_b _ _ _ _ (by assumption) _).mono ?_; rintro e w' ⟨rfl, rfl⟩))
      go_ret
      exact ⟨by rw [← HG.out]; rfl, (by first | exact Qt.refl _ | exact ⟨_, rfl⟩ | exact Qt.drewN ⟨_, rfl⟩ _)⟩
    · have gi : (i == 0) = false := by simpa using hi
      have HG := Lib.hid (show false = q by rw [← hq, ea]; simpa using hi)
      clear hq hi
      go_enter Tryd.func56, Tryd.ntmps56
      go_wp2_with (first | (go_at_call 63; refine (l00In_b _ _ _ _ (by assumption) _).mono ?_; rintro e w' ⟨rfl, rfl⟩))
      go_ret
      exact ⟨by rw [← HG.out]; rfl, (by first | exact Qt.refl _ | exact ⟨_, rfl⟩ | exact Qt.drewN ⟨_, rfl⟩ _)⟩
  rw [if_neg k5] at hq
  have g5 : (k == 5) = false := by simpa using k5
  have HG := Lib.hid hq
  clear hq k0 k1 k2 k3 k4 k5
  go_enter Tryd.func56, Tryd.ntmps56
  go_wp2_with (first | (go_at_call 63; refine (l00In_b _ _ _ _ (by assumption) _).mono ?_; rintro e w' ⟨rfl, rfl⟩))
  go_ret
  exact ⟨by rw [← HG.out]; rfl, (by first | exact Qt.refl _ | exact ⟨_, rfl⟩ | exact Qt.drewN ⟨_, rfl⟩ _)⟩
set_option maxHeartbeats 2000000 in
set_option maxRecDepth 100000 in
theorem validNode_c (x : Nd3) (q : Bool) (w : World) (hq : nodeF x = q) :
    Calls Tryd.prog 58 #[.agg #[.int .i64 x.1, .int .i64 x.2.1, .int .i64 x.2.2]] w fun e w' => e = .returned (.bool q) ∧ Below w.heap.size w w' := by
  obtain ⟨k, a, i⟩ := x
  unfold nodeF at hq
  simp only at hq ⊢
  by_cases k0 : k = 0
  · subst k0
    rw [if_pos rfl] at hq
    cases ea : inB a 0 4
    · have HG := Lib.hid (show false = q by rw [← hq, ea]; rfl)
      clear hq
      go_enter Tryd.func58, Tryd.ntmps58
      go_wp2_with (first | (go_at_call 38; refine (within_b _ _ _ _ (by assumption) _).mono ?_; rintro e w' ⟨rfl, rfl⟩))
      go_ret
      exact ⟨by rw [← HG.out]; rfl, below_size.alloc (Nat.le_refl _) _⟩
    by_cases hi : i = 0
    · subst hi
      have HG := Lib.hid (show true = q by rw [← hq, ea]; rfl)
      clear hq
      go_enter Tryd.func58, Tryd.ntmps58
      go_wp2_with (first | (go_at_call 38; refine (within_b _ _ _ _ (by assumption) _).mono ?_; rintro e w' ⟨rfl, rfl⟩))
      go_ret
      exact ⟨by rw [← HG.out]; rfl, below_size.alloc (Nat.le_refl _) _⟩
    · have gi : (i == 0) = false := by simpa using hi
      have HG := Lib.hid (show false = q by rw [← hq, ea]; simpa using hi)
      clear hq hi
      go_enter Tryd.func58, Tryd.ntmps58
      go_wp2_with (first | (go_at_call 38; refine (within_b _ _ _ _ (by assumption) _).mono ?_; rintro e w' ⟨rfl, rfl⟩))
      go_ret
      exact ⟨by rw [← HG.out]; rfl, below_size.alloc (Nat.le_refl _) _⟩
  rw [if_neg k0] at hq
  have g0 : (k == 0) = false := by simpa using k0
  by_cases k1 : k = 1
  · subst k1
    rw [if_pos rfl] at hq
    clear g0
    by_cases ha : a = 1
    · subst ha
      by_cases hi : i = 0
      · subst hi
        have HG := Lib.hid (show true = q by rw [← hq]; rfl)
        clear hq
        go_enter Tryd.func58, Tryd.ntmps58
        go_wp2_with (first | (go_at_call 38; refine (within_b _ _ _ _ (by assumption) _).mono ?_; rintro e w' ⟨rfl, rfl⟩))
        go_ret
        exact ⟨by rw [← HG.out]; rfl, below_size.alloc (Nat.le_refl _) _⟩
      · have gi : (i == 0) = false := by simpa using hi
        have HG := Lib.hid (show false = q by rw [← hq]; simpa using hi)
        clear hq hi
        go_enter Tryd.func58, Tryd.ntmps58
        go_wp2_with (first | (go_at_call 38; refine (within_b _ _ _ _ (by assumption) _).mono ?_; rintro e w' ⟨rfl, rfl⟩))
        go_ret
        exact ⟨by rw [← HG.out]; rfl, below_size.alloc (Nat.le_refl _) _⟩
    · have ga : (a == 1) = false := by simpa using ha
      have HG := Lib.hid (show false = q by rw [← hq]; simp [ha])
      clear hq ha
      go_enter Tryd.func58, Tryd.ntmps58
      go_wp2_with (first | (go_at_call 38; refine (within_b _ _ _ _ (by assumption) _).mono ?_; rintro e w' ⟨rfl, rfl⟩))
      go_ret
      exact ⟨by rw [← HG.out]; rfl, below_size.alloc (Nat.le_refl _) _⟩
  rw [if_neg k1] at hq
  have g1 : (k == 1) = false := by simpa using k1
  by_cases k2 : k = 2
  · subst k2
    rw [if_pos rfl] at hq
    clear g0 g1
    cases ea : inB a 1 4
    · have HG := Lib.hid (show false = q by rw [← hq, ea]; rfl)
      clear hq
      go_enter Tryd.func58, Tryd.ntmps58
      go_wp2_with (first | (go_at_call 38; refine (within_b _ _ _ _ (by assumption) _).mono ?_; rintro e w' ⟨rfl, rfl⟩))
      go_ret
      exact ⟨by rw [← HG.out]; rfl, below_size.alloc (Nat.le_refl _) _⟩
    · have hab := inB_t ea
      have HG := Lib.hid (show inB i 0 (a - 1) = q by rw [← hq, ea]; rfl)
      cases ei : inB i 0 (a - 1)
      all_goals
        rw [ei] at HG
        clear hq
        go_enter Tryd.func58, Tryd.ntmps58
        go_wp2_with (first | (go_at_call 38; refine (within_b _ _ _ _ (by assumption) _).mono ?_; rintro e w' ⟨rfl, rfl⟩))
        go_ret
        exact ⟨by rw [← HG.out]; rfl, below_size.alloc (Nat.le_refl _) _⟩
  rw [if_neg k2] at hq
  have g2 : (k == 2) = false := by simpa using k2
  by_cases k3 : k = 3
  · subst k3
    rw [if_pos rfl] at hq
    clear g0 g1 g2
    cases ea : inB a 0 4
    · have HG := Lib.hid (show false = q by rw [← hq, ea]; rfl)
      clear hq
      go_enter Tryd.func58, Tryd.ntmps58
      go_wp2_with (first | (go_at_call 38; refine (within_b _ _ _ _ (by assumption) _).mono ?_; rintro e w' ⟨rfl, rfl⟩))
      go_ret
      exact ⟨by rw [← HG.out]; rfl, below_size.alloc (Nat.le_refl _) _⟩
    · have HG := Lib.hid (show inB i 1 4 = q by rw [← hq, ea]; rfl)
      cases ei : inB i 1 4
      all_goals
        rw [ei] at HG
        clear hq
        go_enter Tryd.func58, Tryd.ntmps58
        go_wp2_with (first | (go_at_call 38; refine (within_b _ _ _ _ (by assumption) _).mono ?_; rintro e w' ⟨rfl, rfl⟩))
        go_ret
        exact ⟨by rw [← HG.out]; rfl, below_size.alloc (Nat.le_refl _) _⟩
  rw [if_neg k3] at hq
  have g3 : (k == 3) = false := by simpa using k3
  by_cases k4 : k = 4
  · subst k4
    rw [if_pos rfl] at hq
    clear g0 g1 g2 g3
    cases ea : inB a 1 3
    · have HG := Lib.hid (show false = q by rw [← hq, ea]; rfl)
      clear hq
      go_enter Tryd.func58, Tryd.ntmps58
      go_wp2_with (first | (go_at_call 38; refine (within_b _ _ _ _ (by assumption) _).mono ?_; rintro e w' ⟨rfl, rfl⟩))
      go_ret
      exact ⟨by rw [← HG.out]; rfl, below_size.alloc (Nat.le_refl _) _⟩
    by_cases hi : i = 0
    · subst hi
      have HG := Lib.hid (show true = q by rw [← hq, ea]; rfl)
      clear hq
      go_enter Tryd.func58, Tryd.ntmps58
      go_wp2_with (first | (go_at_call 38; refine (within_b _ _ _ _ (by assumption) _).mono ?_; rintro e w' ⟨rfl, rfl⟩))
      go_ret
      exact ⟨by rw [← HG.out]; rfl, below_size.alloc (Nat.le_refl _) _⟩
    · have gi : (i == 0) = false := by simpa using hi
      have HG := Lib.hid (show false = q by rw [← hq, ea]; simpa using hi)
      clear hq hi
      go_enter Tryd.func58, Tryd.ntmps58
      go_wp2_with (first | (go_at_call 38; refine (within_b _ _ _ _ (by assumption) _).mono ?_; rintro e w' ⟨rfl, rfl⟩))
      go_ret
      exact ⟨by rw [← HG.out]; rfl, below_size.alloc (Nat.le_refl _) _⟩
  rw [if_neg k4] at hq
  have g4 : (k == 4) = false := by simpa using k4
  by_cases k5 : k = 5
  · subst k5
    rw [if_pos rfl] at hq
    clear g0 g1 g2 g3 g4
    cases ea : inB a 0 3
    · have HG := Lib.hid (show false = q by rw [← hq, ea]; rfl)
      clear hq
      go_enter Tryd.func58, Tryd.ntmps58
      go_wp2_with (first | (go_at_call 38; refine (within_b _ _ _ _ (by assumption) _).mono ?_; rintro e w' ⟨rfl, rfl⟩))
      go_ret
      exact ⟨by rw [← HG.out]; rfl, below_size.alloc (Nat.le_refl _) _⟩
    by_cases hi : i = 0
    · subst hi
      have HG := Lib.hid (show true = q by rw [← hq, ea]; rfl)
      clear hq
      go_enter Tryd.func58, Tryd.ntmps58
      go_wp2_with (first | (go_at_call 38; refine (within_b _ _ _ _ (by assumption) _).mono ?_; rintro e w' ⟨rfl, rfl⟩))
      go_ret
      exact ⟨by rw [← HG.out]; rfl, below_size.alloc (Nat.le_refl _) _⟩
    · have gi : (i == 0) = false := by simpa using hi
      have HG := Lib.hid (show false = q by rw [← hq, ea]; simpa using hi)
      clear hq hi
      go_enter Tryd.func58, Tryd.ntmps58
      go_wp2_with (first | (go_at_call 38; refine (within_b _ _ _ _ (by assumption) _).mono ?_; rintro e w' ⟨rfl, rfl⟩))
      go_ret
      exact ⟨by rw [← HG.out]; rfl, below_size.alloc (Nat.le_refl _) _⟩
  rw [if_neg k5] at hq
  have g5 : (k == 5) = false := by simpa using k5
  have HG := Lib.hid hq
  clear hq k0 k1 k2 k3 k4 k5
  go_enter Tryd.func58, Tryd.ntmps58
  go_wp2_with (first | (go_at_call 38; refine (within_b _ _ _ _ (by assumption) _).mono ?_; rintro e w' ⟨rfl, rfl⟩))
  go_ret
  exact ⟨by rw [← HG.out]; rfl, below_size.alloc (Nat.le_refl _) _⟩
end Go.Proofs.YtnoapoaajidncaaDoor
