/-
  Contracts of chapter 28 (automata), first part: ValidDfa.
-/
import Derived.Test.YtdendllginlidaaDoorC01
namespace Go.Proofs.YtdendllginlidaaDoor
open Go.RowKit

def headB (xs : List Int) : Bool := match xs with | [] => false | x :: _ => x == 0
def dfaB (st sym : Int) (xs : List Int) : Bool :=
  inB sym 2 6 && (inB st 1 20 && (((xs.length : Int) == st * sym) && (headB xs && allB 0 (st - 1) xs)))
theorem mul_bd {st sym : Int} (h1 : 2 ≤ sym ∧ sym ≤ 6) (h2 : 1 ≤ st ∧ st ≤ 20) : 2 ≤ st * sym ∧ st * sym ≤ 120 := by
  have h3 := Int.mul_le_mul (a := 1) (b := 2) (c := st) (d := sym) (by omega) (by omega) (by omega) (by omega)
  have h4 := Int.mul_le_mul (a := st) (b := sym) (c := 20) (d := 6) (by omega) (by omega) (by omega) (by omega)
  omega
theorem dfaB_parts {st sym : Int} {xs : List Int} (h : dfaB st sym xs = true) : (2 ≤ sym ∧ sym ≤ 6) ∧ (1 ≤ st ∧ st ≤ 20) ∧ (xs.length : Int) = st * sym ∧ headB xs = true ∧ (∀ x ∈ xs, 0 ≤ x ∧ x ≤ st - 1) := by
  simp only [dfaB, Bool.and_eq_true] at h
  exact ⟨inB_t h.1, inB_t h.2.1, by simpa using h.2.2.1, h.2.2.2.1, allB_mem h.2.2.2.2⟩
/-- a call that hands back an automaton of its own and a code -/
def DfaOut (R : (Int × List Int) × Int) (w : World) (e : Ending) (w' : World) : Prop := ∃ A n c, e = .returned (.tuple #[.agg #[.int .i64 R.1.1, .slice A n c], .int .i64 R.2]) ∧
  Wr w' w.heap.size w'.heap.size A n (R.1.2.map i64) ∧ n ≤ 1000000 ∧ Below w.heap.size w w'
theorem headB_cons {xs : List Int} {x : Int} (h : xs[0]? = some x) : headB xs = (x == 0) := by
  cases xs with
  | nil => simp at h
  | cons y ys => simp at h; subst h; rfl

set_option maxHeartbeats 1000000 in
theorem l28Is_c (b : Nat) (st sym : Int) (A : Option Addr) (n c : Nat) (xs : List Int) (w : World) (h0 : w.cell? ⟨b, 0, none⟩ = some (.int .i64 st)) (h1 : w.cell? ⟨b, 1, none⟩ = some (.slice A n c))
    (h : RdI w A n xs) (hn : n ≤ 1000000000000) :
    Calls Tryd.prog 11 #[.pointer (some ⟨b, 0, none⟩), .int .i64 sym] w fun e w' => e = .returned (.bool (dfaB st sym xs)) ∧ Qt w w' := by
  have HL := Lib.hid h.len
  have H := Lib.hid h; clear h
  cases hb1 : inB sym 2 6
  · go_enter Tryd.func11, Tryd.ntmps11
    go_wp2
    go_quiet ((go_at_call 23; first | exact quiet_left (l00In_c _ _ _ _) | exact quiet_add_left (l00In_c _ _ _ _)))
    go_wp2
    go_ret
    exact ⟨by simp [dfaB, hb1], (by first | exact Qt.refl _ | exact ⟨_, rfl⟩ | exact Qt.drewN ⟨_, rfl⟩ _)⟩
  cases hb2 : inB st 1 20
  · go_enter Tryd.func11, Tryd.ntmps11
    go_wp2
    go_quiet ((go_at_call 23; first | exact quiet_left (l00In_c _ _ _ _) | exact quiet_add_left (l00In_c _ _ _ _)))
    go_wp2
    go_ret
    exact ⟨by simp [dfaB, hb2], (by first | exact Qt.refl _ | exact ⟨_, rfl⟩ | exact Qt.drewN ⟨_, rfl⟩ _)⟩
  have hs1 := inB_t hb1
  have hs2 := inB_t hb2
  have hm := mul_bd hs1 hs2
  by_cases hb3 : (n : Int) = st * sym
  · have hb3' : ((n : Int) != st * sym) = false := by simpa using hb3
    have hn0 : 0 < n := by omega
    obtain ⟨ad, x, rfl, hab, hx, hcx⟩ := H.out.at_ hn0
    have e0 : ad.add 0 = ad := rfl
    rw [e0] at hcx
    have HB := Lib.hid hb3; clear hb3 e0
    have Hx := Lib.hid hx; clear hx
    have hlen : ((xs.length : Int) == st * sym) = true := by rw [HL.out]; simpa using HB.out
    have HLen := Lib.hid hlen; clear hlen
    by_cases hx0 : x = 0
    · have hx0' : (x != 0) = false := by simpa using hx0
      have HX := Lib.hid hx0; clear hx0
      have hhd : headB xs = true := by rw [headB_cons Hx.out, HX.out]; rfl
      have HH := Lib.hid hhd; clear hhd
      go_enter Tryd.func11, Tryd.ntmps11
      go_wp2
      go_quiet ((go_at_call 23; first | exact quiet_left (l00In_c _ _ _ _) | exact quiet_add_left (l00In_c _ _ _ _)))
      go_wp2
      clear hcx hx0' hb3'
      go_loopw [5] (fun i wr => ∃ k : Nat, k ≤ n ∧ i = .int .i64 k ∧ Hid (allB 0 (st - 1) xs = allB 0 (st - 1) (xs.drop k)) ∧ Qt w wr) (fun i _ => n - (intOf i).toNat)
      case atStart => exact ⟨0, by omega, rfl, rfl, (by first | exact Qt.refl _ | exact ⟨_, rfl⟩ | exact Qt.drewN ⟨_, rfl⟩ _)⟩
      case round =>
        obtain ⟨k, hk, rfl, hr, hq⟩ := hrel
        obtain ⟨m, rfl⟩ := hq
        by_cases hlt : k < n
        · obtain ⟨ad', y, e, hab', hy, hcy⟩ := H.out.at_ hlt
          injection e with e; subst e
          have Hy := Lib.hid hy; clear hy
          cases hin : inB y 0 (st - 1)
          · go_wp2
            go_quiet ((go_at_call 23; first | exact quiet_left (l00In_c _ _ _ _) | exact quiet_add_left (l00In_c _ _ _ _)))
            go_wp2
            go_ret
            refine ⟨?_, (by first | exact Qt.refl _ | exact ⟨_, rfl⟩ | exact Qt.drewN ⟨_, rfl⟩ _)⟩
            have e1 : allB 0 (st - 1) xs = false := by rw [hr.out, drop_at Hy.out, allB, hin]; rfl
            simp [dfaB, e1]
          · go_wp2
            go_quiet ((go_at_call 23; first | exact quiet_left (l00In_c _ _ _ _) | exact quiet_add_left (l00In_c _ _ _ _)))
            go_wp2
            go_roundw
            case rel => exact ⟨k + 1, by omega, by go_num, by rw [hr.out, drop_at Hy.out, allB, hin]; rfl, (by first | exact Qt.refl _ | exact ⟨_, rfl⟩ | exact Qt.drewN ⟨_, rfl⟩ _)⟩
            case measure => simp [intOf]; omega
        · go_wp2
          go_ret
          refine ⟨?_, (by first | exact Qt.refl _ | exact ⟨_, rfl⟩ | exact Qt.drewN ⟨_, rfl⟩ _)⟩
          have e1 : allB 0 (st - 1) xs = true := by rw [hr.out, List.drop_eq_nil_of_le (by rw [HL.out]; omega)]; rfl
          simp only [dfaB, HLen.out, HH.out, e1, hb1, hb2]
          rfl
    · have hx0' : (x != 0) = true := by simpa using hx0
      have HX := Lib.hid hx0; clear hx0
      have hhd : headB xs = false := by rw [headB_cons Hx.out]; simpa using HX.out
      have HH := Lib.hid hhd; clear hhd
      go_enter Tryd.func11, Tryd.ntmps11
      go_wp2
      go_quiet ((go_at_call 23; first | exact quiet_left (l00In_c _ _ _ _) | exact quiet_add_left (l00In_c _ _ _ _)))
      go_wp2
      go_ret
      exact ⟨by simp [dfaB, HH.out], (by first | exact Qt.refl _ | exact ⟨_, rfl⟩ | exact Qt.drewN ⟨_, rfl⟩ _)⟩
  · have hb3' : ((n : Int) != st * sym) = true := by simpa using hb3
    have HB := Lib.hid hb3; clear hb3
    go_enter Tryd.func11, Tryd.ntmps11
    go_wp2
    go_quiet ((go_at_call 23; first | exact quiet_left (l00In_c _ _ _ _) | exact quiet_add_left (l00In_c _ _ _ _)))
    go_wp2
    go_ret
    refine ⟨?_, (by first | exact Qt.refl _ | exact ⟨_, rfl⟩ | exact Qt.drewN ⟨_, rfl⟩ _)⟩
    have : ((xs.length : Int) == st * sym) = false := by rw [HL.out]; simpa using HB.out
    simp [dfaB, this]

set_option maxHeartbeats 1000000 in
theorem iValidDfa_c (st sym : Int) (A : Option Addr) (n c : Nat) (xs : List Int) (w : World) (h : RdI w A n xs) (hn : n ≤ 1000000000000) :
    Calls Tryd.prog 17 #[.agg #[.int .i64 st, .slice A n c], .int .i64 sym] w fun e w' => e = .returned (.bool (dfaB st sym xs)) ∧ Below w.heap.size w w' := by
  have HL := Lib.hid h.len
  have H := Lib.hid h; clear h
  cases hb1 : inB sym 2 6
  · go_enter Tryd.func17, Tryd.ntmps17
    go_wp2
    go_quiet (first | (go_at_call 15; first | exact quiet_left (symbolsOk_b _ _ (by assumption) _) | exact quiet_add_left (symbolsOk_b _ _ (by assumption) _)) | (go_at_call 28; first | exact quiet_left (within_b _ _ _ _ (by assumption) _) | exact quiet_add_left (within_b _ _ _ _ (by assumption) _)))
    go_wp2
    go_ret
    exact ⟨by simp [dfaB, hb1], below_drewN (below_size.alloc (Nat.le_refl _) _) _⟩
  cases hb2 : inB st 1 20
  · go_enter Tryd.func17, Tryd.ntmps17
    go_wp2
    go_quiet (first | (go_at_call 15; first | exact quiet_left (symbolsOk_b _ _ (by assumption) _) | exact quiet_add_left (symbolsOk_b _ _ (by assumption) _)) | (go_at_call 28; first | exact quiet_left (within_b _ _ _ _ (by assumption) _) | exact quiet_add_left (within_b _ _ _ _ (by assumption) _)))
    go_wp2
    go_ret
    exact ⟨by simp [dfaB, hb2], below_drewN (below_size.alloc (Nat.le_refl _) _) _⟩
  have hs1 := inB_t hb1
  have hs2 := inB_t hb2
  have hm := mul_bd hs1 hs2
  by_cases hb3 : (n : Int) = st * sym
  · have hb3' : ((n : Int) == st * sym) = true := by simpa using hb3
    have hn0 : 0 < n := by omega
    obtain ⟨ad, x, rfl, hab, hx, hcx⟩ := H.out.at_ hn0
    have e0 : ad.add 0 = ad := rfl
    rw [e0] at hcx
    have HB := Lib.hid hb3; clear hb3 e0
    have Hx := Lib.hid hx; clear hx
    have hcx' : ∀ o, (w.alloc o).cell? ad = some (.int .i64 x) := fun o => by rw [World.cell?_alloc_lt w o ad hab]; exact hcx
    have hlen : ((xs.length : Int) == st * sym) = true := by rw [HL.out]; simpa using HB.out
    have HLen := Lib.hid hlen; clear hlen
    cases hb4 : allB 0 (st - 1) xs
    · go_enter Tryd.func17, Tryd.ntmps17
      go_wp2
      go_quiet (first | (go_at_call 15; first | exact quiet_left (symbolsOk_b _ _ (by assumption) _) | exact quiet_add_left (symbolsOk_b _ _ (by assumption) _)) | (go_at_call 28; first | exact quiet_left (within_b _ _ _ _ (by assumption) _) | exact quiet_add_left (within_b _ _ _ _ (by assumption) _)) | (go_at_call 16; first | exact quiet_left (sizeI_c _ _ _ _ hn) | exact quiet_add_left (sizeI_c _ _ _ _ hn)) | (go_at_call 29; first | exact quiet_left (allWithin_b _ _ _ xs _ _ _ (by assumption) _ (by exact (H.out.alloc _).drewN _) hn) | exact quiet_add_left (allWithin_b _ _ _ xs _ _ _ (by assumption) _ (by exact (H.out.alloc _).drewN _) hn)))
      go_wp2
      go_ret
      exact ⟨by simp [dfaB, hb4], below_drewN (below_size.alloc (Nat.le_refl _) _) _⟩
    · by_cases hx0 : x = 0
      · have hx0' : (x == 0) = true := by simpa using hx0
        have hhd : headB xs = true := by rw [headB_cons Hx.out, hx0]; rfl
        have HX := Lib.hid hx0; clear hx0
        have HH := Lib.hid hhd; clear hhd
        go_enter Tryd.func17, Tryd.ntmps17
        go_wp2
        go_quiet (first | (go_at_call 15; first | exact quiet_left (symbolsOk_b _ _ (by assumption) _) | exact quiet_add_left (symbolsOk_b _ _ (by assumption) _)) | (go_at_call 28; first | exact quiet_left (within_b _ _ _ _ (by assumption) _) | exact quiet_add_left (within_b _ _ _ _ (by assumption) _)) | (go_at_call 16; first | exact quiet_left (sizeI_c _ _ _ _ hn) | exact quiet_add_left (sizeI_c _ _ _ _ hn)) | (go_at_call 29; first | exact quiet_left (allWithin_b _ _ _ xs _ _ _ (by assumption) _ (by exact (H.out.alloc _).drewN _) hn) | exact quiet_add_left (allWithin_b _ _ _ xs _ _ _ (by assumption) _ (by exact (H.out.alloc _).drewN _) hn)))
        go_wp2
        go_ret
        exact ⟨by simp only [dfaB, HLen.out, HH.out, hb1, hb2, hb4]; rfl, below_drewN (below_size.alloc (Nat.le_refl _) _) _⟩
      · have hx0' : (x == 0) = false := by simpa using hx0
        have hhd : headB xs = false := by rw [headB_cons Hx.out]; exact hx0'
        have HX := Lib.hid hx0; clear hx0
        have HH := Lib.hid hhd; clear hhd
        go_enter Tryd.func17, Tryd.ntmps17
        go_wp2
        go_quiet (first | (go_at_call 15; first | exact quiet_left (symbolsOk_b _ _ (by assumption) _) | exact quiet_add_left (symbolsOk_b _ _ (by assumption) _)) | (go_at_call 28; first | exact quiet_left (within_b _ _ _ _ (by assumption) _) | exact quiet_add_left (within_b _ _ _ _ (by assumption) _)) | (go_at_call 16; first | exact quiet_left (sizeI_c _ _ _ _ hn) | exact quiet_add_left (sizeI_c _ _ _ _ hn)) | (go_at_call 29; first | exact quiet_left (allWithin_b _ _ _ xs _ _ _ (by assumption) _ (by exact (H.out.alloc _).drewN _) hn) | exact quiet_add_left (allWithin_b _ _ _ xs _ _ _ (by assumption) _ (by exact (H.out.alloc _).drewN _) hn)))
        go_wp2
        go_ret
        exact ⟨by simp [dfaB, HH.out], below_drewN (below_size.alloc (Nat.le_refl _) _) _⟩
  · have hb3' : ((n : Int) == st * sym) = false := by simpa using hb3
    have HB := Lib.hid hb3; clear hb3
    go_enter Tryd.func17, Tryd.ntmps17
    go_wp2
    go_quiet (first | (go_at_call 15; first | exact quiet_left (symbolsOk_b _ _ (by assumption) _) | exact quiet_add_left (symbolsOk_b _ _ (by assumption) _)) | (go_at_call 28; first | exact quiet_left (within_b _ _ _ _ (by assumption) _) | exact quiet_add_left (within_b _ _ _ _ (by assumption) _)) | (go_at_call 16; first | exact quiet_left (sizeI_c _ _ _ _ hn) | exact quiet_add_left (sizeI_c _ _ _ _ hn)))
    go_wp2
    go_ret
    refine ⟨?_, below_drewN (below_size.alloc (Nat.le_refl _) _) _⟩
    have : ((xs.length : Int) == st * sym) = false := by rw [HL.out]; simpa using HB.out
    simp [dfaB, this]
end Go.Proofs.YtdendllginlidaaDoor
