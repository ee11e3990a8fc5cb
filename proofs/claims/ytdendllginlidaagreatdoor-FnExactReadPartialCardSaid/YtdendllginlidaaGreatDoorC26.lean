/-
  Contracts of chapter 26: valid partial configurations.
-/
import Derived.Test.YtdendllginlidaaGreatDoorC05b
import Derived.Test.YtdendllginlidaaGreatDoorSeg
namespace Go.Proofs.YtdendllginlidaaGreatDoor
open Go.RowKit

def partB (sy st s a : Int) (xs : List Int) : Bool := inB s 0 (st - 1) && inB xs.length 1 60 && inB a 0 (xs.length - 1) && allB 0 (sy - 1) xs
def vpartB (sy st : Int) (rs : List Rule3) (s a : Int) (xs : List Int) : Bool := machB sy st rs && partB sy st s a xs
/-- a partial configuration behind a pointer -/
structure PartP (w : World) (g : Nat) (s a : Int) (A : Option Addr) (n cp : Nat) (xs : List Int) : Prop where
  c0 : w.cell? ⟨g, 0, none⟩ = some (i64 s)
  c1 : w.cell? ⟨g, 1, none⟩ = some (i64 a)
  c2 : w.cell? ⟨g, 2, none⟩ = some (.slice A n cp)
  rd : RdI w A n xs
theorem PartP.below {w w' : World} {g : Nat} {s a : Int} {A : Option Addr} {n cp : Nat} {xs : List Int} (h : PartP w g s a A n cp xs) (hb : Below w.heap.size w w') : PartP w' g s a A n cp xs :=
  ⟨keepc hb h.c0, keepc hb h.c1, keepc hb h.c2, h.rd.below hb⟩
theorem machB_bd {sy st : Int} {rs : List Rule3} (h : machB sy st rs = true) : (2 ≤ sy ∧ sy ≤ 6) ∧ (1 ≤ st ∧ st ≤ 1000) ∧ (rs.length : Int) = sy * st := by
  simp only [machB, Bool.and_eq_true, beq_iff_eq] at h
  exact ⟨inB_t h.1.1.1, inB_t h.1.1.2, h.1.2⟩

set_option maxHeartbeats 2000000 in
set_option maxRecDepth 100000 in
theorem l26Good_c (g : Nat) (sy st : Int) (A : Option Addr) (n cp : Nat) (rs : List Rule3) (g' : Nat) (s a : Int) (A' : Option Addr) (n' cp' : Nat) (xs : List Int) (q : Bool) (w : World) (h : MachP w g sy st A n cp rs) (h' : PartP w g' s a A' n' cp' xs)
    (hsy : 2 ≤ sy ∧ sy ≤ 6) (hst : 1 ≤ st ∧ st ≤ 1000) (hn' : n' ≤ 1000000000) (hq : partB sy st s a xs = q) :
    Calls Tryz.prog 23 #[.pointer (some ⟨g, 0, none⟩), .pointer (some ⟨g', 0, none⟩)] w fun e w' => e = .returned (.bool q) ∧ Qt w w' := by
  have HL := Lib.hid h'.rd.len
  have h0 := h.c0; have h1 := h.c1
  have k0 := h'.c0; have k1 := h'.c1; have k2 := h'.c2
  have H := Lib.hid h; have H' := Lib.hid h'
  have HQ := Lib.hid (show (inB s 0 (st - 1) && inB (n' : Int) 1 60 && inB a 0 ((n' : Int) - 1) && allB 0 (sy - 1) xs) = q by rw [← hq, partB, HL.out]); clear h h' hq
  obtain ⟨hsy0, hsy1⟩ := hsy
  obtain ⟨hst0, hst1⟩ := hst
  cases i1 : inB s 0 (st - 1)
  · have HF := Lib.hid (show false = q by rw [← HQ.out, i1]; simp)
    go_enter Tryz.func23, Tryz.ntmps23
    go_wp2_with fail
    go_quiet (first | (go_at_call 48; first | exact quiet_left (l00In_b _ _ _ _ (by assumption) _) | exact quiet_add_left (l00In_b _ _ _ _ (by assumption) _)))
    go_wp2_with fail
    go_ret
    exact ⟨by rw [← HF.out]; rfl, (by first | exact Qt.refl _ | exact ⟨_, rfl⟩ | exact Qt.drewN ⟨_, rfl⟩ _)⟩
  cases i2 : inB (n' : Int) 1 60
  · have HF := Lib.hid (show false = q by rw [← HQ.out, i2]; simp)
    go_enter Tryz.func23, Tryz.ntmps23
    go_wp2_with fail
    go_quiet (first | (go_at_call 48; first | exact quiet_left (l00In_b _ _ _ _ (by assumption) _) | exact quiet_add_left (l00In_b _ _ _ _ (by assumption) _)))
    go_wp2_with fail
    go_ret
    exact ⟨by rw [← HF.out]; rfl, (by first | exact Qt.refl _ | exact ⟨_, rfl⟩ | exact Qt.drewN ⟨_, rfl⟩ _)⟩
  have hn60 := inB_t i2
  cases i3 : inB a 0 ((n' : Int) - 1)
  · have HF := Lib.hid (show false = q by rw [← HQ.out, i3]; simp)
    go_enter Tryz.func23, Tryz.ntmps23
    go_wp2_with fail
    go_quiet (first | (go_at_call 48; first | exact quiet_left (l00In_b _ _ _ _ (by assumption) _) | exact quiet_add_left (l00In_b _ _ _ _ (by assumption) _)))
    go_wp2_with fail
    go_ret
    exact ⟨by rw [← HF.out]; rfl, (by first | exact Qt.refl _ | exact ⟨_, rfl⟩ | exact Qt.drewN ⟨_, rfl⟩ _)⟩
  have HF := Lib.hid (show allB 0 (sy - 1) xs = q by rw [← HQ.out, i1, i2, i3]; simp)
  clear HQ
  go_enter Tryz.func23, Tryz.ntmps23
  go_wp2_with fail
  go_quiet (first | (go_at_call 48; first | exact quiet_left (l00In_b _ _ _ _ (by assumption) _) | exact quiet_add_left (l00In_b _ _ _ _ (by assumption) _)))
  go_wp2_with fail
  go_loopw [6] (fun iv wr => ∃ k : Nat, k ≤ n' ∧ iv = .int .i64 k ∧ Hid (allB 0 (sy - 1) xs = allB 0 (sy - 1) (xs.drop k)) ∧ Qt w wr) (fun iv _ => n' - (intOf iv).toNat)
  case atStart => exact ⟨0, by omega, rfl, rfl, (by first | exact Qt.refl _ | exact ⟨_, rfl⟩ | exact Qt.drewN ⟨_, rfl⟩ _)⟩
  case round =>
    obtain ⟨k, hk, rfl, hr, hq⟩ := hrel
    obtain ⟨m, rfl⟩ := hq
    by_cases hlt : k < n'
    · obtain ⟨ad, y, rfl, hab, hy, hcy⟩ := H'.out.rd.at_ hlt
      have Hy := Lib.hid hy; clear hy
      cases hin : inB y 0 (sy - 1)
      · have HE := Lib.hid (show false = q by rw [← HF.out, hr.out, drop_at Hy.out, allB, hin]; rfl)
        clear hr
        go_wp2_with fail
        go_quiet (first | (go_at_call 48; first | exact quiet_left (l00In_b _ _ _ _ (by assumption) _) | exact quiet_add_left (l00In_b _ _ _ _ (by assumption) _)))
        go_wp2_with fail
        go_ret
        exact ⟨by rw [← HE.out]; rfl, (by first | exact Qt.refl _ | exact ⟨_, rfl⟩ | exact Qt.drewN ⟨_, rfl⟩ _)⟩
      · have HE := Lib.hid (show allB 0 (sy - 1) xs = allB 0 (sy - 1) (xs.drop (k + 1)) by rw [hr.out, drop_at Hy.out, allB, hin]; rfl)
        clear hr
        go_wp2_with fail
        go_quiet (first | (go_at_call 48; first | exact quiet_left (l00In_b _ _ _ _ (by assumption) _) | exact quiet_add_left (l00In_b _ _ _ _ (by assumption) _)))
        go_wp2_with fail
        go_roundw
        case rel => exact ⟨k + 1, by omega, by go_num, HE.out, (by first | exact Qt.refl _ | exact ⟨_, rfl⟩ | exact Qt.drewN ⟨_, rfl⟩ _)⟩
        case measure => simp [intOf]; omega
    · have HE := Lib.hid (show true = q by rw [← HF.out, hr.out, List.drop_eq_nil_of_le (by rw [HL.out]; omega)]; rfl)
      clear hr
      go_wp2_with fail
      go_ret
      exact ⟨by rw [← HE.out]; rfl, (by first | exact Qt.refl _ | exact ⟨_, rfl⟩ | exact Qt.drewN ⟨_, rfl⟩ _)⟩
set_option maxHeartbeats 2000000 in
theorem partialOf_c (sy st : Int) (A : Option Addr) (n cp : Nat) (s a : Int) (A' : Option Addr) (n' cp' : Nat) (xs : List Int) (q : Bool) (w : World) (h' : RdI w A' n' xs)
    (hsy : 2 ≤ sy ∧ sy ≤ 6) (hst : 1 ≤ st ∧ st ≤ 1000) (hn' : n' ≤ 1000000000) (hq : partB sy st s a xs = q) :
    Calls Tryz.prog 82 #[.agg #[.int .i64 sy, .int .i64 st, .slice A n cp], .agg #[.int .i64 s, .int .i64 a, .slice A' n' cp']] w fun e w' => e = .returned (.bool q) ∧ Below w.heap.size w w' := by
  have HL := Lib.hid h'.len
  have H' := Lib.hid h'
  have HQ := Lib.hid (show (inB s 0 (st - 1) && inB (n' : Int) 1 60 && inB a 0 ((n' : Int) - 1) && allB 0 (sy - 1) xs) = q by rw [← hq, partB, HL.out]); clear h' hq
  obtain ⟨hsy0, hsy1⟩ := hsy
  obtain ⟨hst0, hst1⟩ := hst
  cases i1 : inB s 0 (st - 1)
  · have HF := Lib.hid (show false = q by rw [← HQ.out, i1]; simp)
    go_enter Tryz.func82, Tryz.ntmps82
    go_wp2_with fail
    go_quiet (first | (go_at_call 67; first | exact quiet_left (within_b _ _ _ _ (by assumption) _) | exact quiet_add_left (within_b _ _ _ _ (by assumption) _)) | (go_at_call 29; first | exact quiet_left (sizeI_c _ _ _ _ (by omega)) | exact quiet_add_left (sizeI_c _ _ _ _ (by omega))) | (go_at_call 68; first | exact quiet_left (allWithin_b _ _ _ xs _ _ _ (by assumption) _ (by exact ((H'.out.alloc _).alloc _).drewN _) (by omega)) | exact quiet_add_left (allWithin_b _ _ _ xs _ _ _ (by assumption) _ (by exact ((H'.out.alloc _).alloc _).drewN _) (by omega))))
    go_wp2_with fail
    go_ret
    exact ⟨by rw [← HF.out]; rfl, below_drewN ((below_size.alloc (Nat.le_refl _) _).alloc (by simp) _) _⟩
  cases i2 : inB (n' : Int) 1 60
  · have HF := Lib.hid (show false = q by rw [← HQ.out, i2]; simp)
    go_enter Tryz.func82, Tryz.ntmps82
    go_wp2_with fail
    go_quiet (first | (go_at_call 67; first | exact quiet_left (within_b _ _ _ _ (by assumption) _) | exact quiet_add_left (within_b _ _ _ _ (by assumption) _)) | (go_at_call 29; first | exact quiet_left (sizeI_c _ _ _ _ (by omega)) | exact quiet_add_left (sizeI_c _ _ _ _ (by omega))) | (go_at_call 68; first | exact quiet_left (allWithin_b _ _ _ xs _ _ _ (by assumption) _ (by exact ((H'.out.alloc _).alloc _).drewN _) (by omega)) | exact quiet_add_left (allWithin_b _ _ _ xs _ _ _ (by assumption) _ (by exact ((H'.out.alloc _).alloc _).drewN _) (by omega))))
    go_wp2_with fail
    go_ret
    exact ⟨by rw [← HF.out]; rfl, below_drewN ((below_size.alloc (Nat.le_refl _) _).alloc (by simp) _) _⟩
  have hn60 := inB_t i2
  cases i3 : inB a 0 ((n' : Int) - 1)
  · have HF := Lib.hid (show false = q by rw [← HQ.out, i3]; simp)
    go_enter Tryz.func82, Tryz.ntmps82
    go_wp2_with fail
    go_quiet (first | (go_at_call 67; first | exact quiet_left (within_b _ _ _ _ (by assumption) _) | exact quiet_add_left (within_b _ _ _ _ (by assumption) _)) | (go_at_call 29; first | exact quiet_left (sizeI_c _ _ _ _ (by omega)) | exact quiet_add_left (sizeI_c _ _ _ _ (by omega))) | (go_at_call 68; first | exact quiet_left (allWithin_b _ _ _ xs _ _ _ (by assumption) _ (by exact ((H'.out.alloc _).alloc _).drewN _) (by omega)) | exact quiet_add_left (allWithin_b _ _ _ xs _ _ _ (by assumption) _ (by exact ((H'.out.alloc _).alloc _).drewN _) (by omega))))
    go_wp2_with fail
    go_ret
    exact ⟨by rw [← HF.out]; rfl, below_drewN ((below_size.alloc (Nat.le_refl _) _).alloc (by simp) _) _⟩
  have HF := Lib.hid (show allB 0 (sy - 1) xs = q by rw [← HQ.out, i1, i2, i3]; simp)
  obtain ⟨u, i4⟩ : ∃ u, allB 0 (sy - 1) xs = u := ⟨_, rfl⟩
  have HU := Lib.hid (show u = q by rw [← HF.out, i4])
  go_enter Tryz.func82, Tryz.ntmps82
  go_wp2_with fail
  go_quiet (first | (go_at_call 67; first | exact quiet_left (within_b _ _ _ _ (by assumption) _) | exact quiet_add_left (within_b _ _ _ _ (by assumption) _)) | (go_at_call 29; first | exact quiet_left (sizeI_c _ _ _ _ (by omega)) | exact quiet_add_left (sizeI_c _ _ _ _ (by omega))) | (go_at_call 68; first | exact quiet_left (allWithin_b _ _ _ xs _ _ _ (by assumption) _ (by exact ((H'.out.alloc _).alloc _).drewN _) (by omega)) | exact quiet_add_left (allWithin_b _ _ _ xs _ _ _ (by assumption) _ (by exact ((H'.out.alloc _).alloc _).drewN _) (by omega))))
  go_wp2_with fail
  go_ret
  exact ⟨by rw [← HU.out]; rfl, below_drewN ((below_size.alloc (Nat.le_refl _) _).alloc (by simp) _) _⟩
set_option maxHeartbeats 1000000 in
theorem iValidPartial_c (sy st : Int) (A : Option Addr) (n cp : Nat) (rs : List Rule3) (s a : Int) (A' : Option Addr) (n' cp' : Nat) (xs : List Int) (w : World) (h : RdS w [sgX enc3 3 A n rs]) (h' : RdS w [sgI A' n' xs]) (hn : n ≤ 1000000000) (hn' : n' ≤ 1000000000) :
    Calls Tryz.prog 59 #[.agg #[.int .i64 sy, .int .i64 st, .slice A n cp], .agg #[.int .i64 s, .int .i64 a, .slice A' n' cp']] w fun e w' => e = .returned (.bool (vpartB sy st rs s a xs)) ∧ Below w.heap.size w w' := by
  have H := Lib.hid h.head; have H' := Lib.hid h'.head; clear h h'
  cases hm : machB sy st rs
  · have HF := Lib.hid (show vpartB sy st rs s a xs = false by simp [vpartB, hm])
    go_enter Tryz.func59, Tryz.ntmps59
    go_wp2_with fail
    refine (validMachine_c sy st A n cp rs false _ (by exact (Rd.alloc H.out _).alloc _) hn hm).mono ?_
    rintro e w1 ⟨rfl, hb⟩
    have T := Lib.hid (up2 hb); clear hb
    go_wp2_with fail
    go_ret
    exact ⟨by rw [HF.out]; rfl, T.out⟩
  · have HF := Lib.hid (show vpartB sy st rs s a xs = partB sy st s a xs by simp [vpartB, hm])
    have hbd := machB_bd hm
    go_enter Tryz.func59, Tryz.ntmps59
    go_wp2_with fail
    refine (validMachine_c sy st A n cp rs true _ (by exact (Rd.alloc H.out _).alloc _) hn hm).mono ?_
    rintro e w1 ⟨rfl, hb⟩
    have m0 : w1.cell? ⟨w.heap.size, 0, none⟩ = some (i64 sy) := keepc hb (by simp)
    have m1 : w1.cell? ⟨w.heap.size, 1, none⟩ = some (i64 st) := keepc hb (by simp)
    have m2 : w1.cell? ⟨w.heap.size, 2, none⟩ = some (.slice A n cp) := keepc hb (by simp)
    have p0 : w1.cell? ⟨w.heap.size + 1, 0, none⟩ = some (i64 s) := keepc hb (by simp)
    have p1 : w1.cell? ⟨w.heap.size + 1, 1, none⟩ = some (i64 a) := keepc hb (by simp)
    have p2 : w1.cell? ⟨w.heap.size + 1, 2, none⟩ = some (.slice A' n' cp') := keepc hb (by simp)
    have T := Lib.hid (up2 hb); clear hb
    go_wp2_with fail
    refine (partialOf_c sy st A n cp s a A' n' cp' xs _ _ (by exact Rd.below H'.out T.out) hbd.1 hbd.2.1 hn' rfl).mono ?_
    rintro e w2 ⟨rfl, hb⟩
    have T2 := Lib.hid (below_chain T.out T.out.size hb); clear hb hbd
    generalize partB sy st s a xs = u at *
    go_wp2_with fail
    go_ret
    exact ⟨by rw [HF.out]; rfl, T2.out⟩
end Go.Proofs.YtdendllginlidaaGreatDoor
