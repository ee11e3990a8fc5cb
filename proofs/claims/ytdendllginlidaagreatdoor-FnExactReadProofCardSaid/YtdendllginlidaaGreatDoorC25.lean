/-
  Contracts of chapter 25: ValidProof.
-/
import Derived.Test.YtdendllginlidaaGreatDoorC03
namespace Go.Proofs.YtdendllginlidaaGreatDoor
open Go.RowKit

def proofB (kd : Int) (xs : List Int) (xss : List (List Int)) : Bool := inB kd 1 8 && decide ((xs.length : Int) ≤ 300) && decide ((xss.length : Int) ≤ 300) && allB (-1000000000000) 1000000000000 xs && wordsX xss
/-- a proof behind a pointer -/
structure ProofP (w : World) (g : Nat) (kd : Int) (A : Option Addr) (n cp : Nat) (xs : List Int) (A' : Option Addr) (n' cp' : Nat) (its : List It) : Prop where
  c0 : w.cell? ⟨g, 0, none⟩ = some (i64 kd)
  c1 : w.cell? ⟨g, 1, none⟩ = some (.slice A n cp)
  c2 : w.cell? ⟨g, 2, none⟩ = some (.slice A' n' cp')
  rd : RdI w A n xs
  rd' : RdS w (sgII A' n' its)

set_option maxHeartbeats 2000000 in
set_option maxRecDepth 100000 in
theorem l25Is_c (g : Nat) (kd : Int) (A : Option Addr) (n cp : Nat) (xs : List Int) (A' : Option Addr) (n' cp' : Nat) (its : List It) (q : Bool) (w : World) (h : ProofP w g kd A n cp xs A' n' cp' its) (hn : n ≤ 1000000000) (hn' : n' ≤ 1000000000) (hi : ∀ t ∈ its, t.n ≤ 1000000000) (hq : proofB kd xs (its.map It.xs) = q) :
    Calls Tryz.prog 65 #[.pointer (some ⟨g, 0, none⟩)] w fun e w' => e = .returned (.bool q) ∧ w = w' := by
  have HL := Lib.hid h.rd.len
  have h0 := h.c0; have h1 := h.c1; have h2 := h.c2
  have HQ := Lib.hid (show (inB kd 1 8 && decide ((n : Int) ≤ 300) && decide ((n' : Int) ≤ 300) && allB (-1000000000000) 1000000000000 xs && wordsB its) = q by rw [← hq, proofB, HL.out, List.length_map, RdII.len h.rd']; rfl)
  have H := Lib.hid h; have HI := Lib.hid hi; clear h hq hi
  cases i1 : inB kd 1 8
  · have HF := Lib.hid (show false = q by rw [← HQ.out, i1]; simp)
    go_enter Tryz.func65, Tryz.ntmps65
    go_wp2_with fail
    refine (l00In_b _ _ _ _ i1 _).mono ?_
    rintro e w' ⟨rfl, rfl⟩
    go_wp2_with fail
    go_ret
    exact ⟨by rw [← HF.out]; rfl, rfl⟩
  by_cases i2 : (n : Int) ≤ 300
  · by_cases i3 : (n' : Int) ≤ 300
    · have HF := Lib.hid (show (allB (-1000000000000) 1000000000000 xs && wordsB its) = q by rw [← HQ.out, i1, decide_eq_true i2, decide_eq_true i3]; simp)
      clear HQ
      go_enter Tryz.func65, Tryz.ntmps65
      go_wp2_with fail
      refine (l00In_b _ _ _ _ i1 _).mono ?_
      rintro e w' ⟨rfl, rfl⟩
      go_wp2_with fail
      go_loop [3] (fun iv => ∃ k : Nat, k ≤ n ∧ iv = .int .i64 k ∧ Hid (allB (-1000000000000) 1000000000000 xs = allB (-1000000000000) 1000000000000 (xs.drop k))) (fun iv => n - (intOf iv).toNat)
      case atStart => exact ⟨0, by omega, rfl, rfl⟩
      case round =>
        obtain ⟨k, hk, rfl, hr⟩ := hrel
        by_cases hlt : k < n
        · obtain ⟨ad, y, rfl, hab, hy, hcy⟩ := H.out.rd.at_ hlt
          have Hy := Lib.hid hy; clear hy
          cases hin : inB y (-1000000000000) 1000000000000
          · have HE := Lib.hid (show false = q by rw [← HF.out, hr.out, drop_at Hy.out, allB, hin]; simp)
            clear hr
            go_wp2_with fail
            refine (l00In_b _ _ _ _ hin _).mono ?_
            rintro e w' ⟨rfl, rfl⟩
            go_wp2_with fail
            go_ret
            exact ⟨by rw [← HE.out]; rfl, rfl⟩
          · have HE := Lib.hid (show allB (-1000000000000) 1000000000000 xs = allB (-1000000000000) 1000000000000 (xs.drop (k + 1)) by rw [hr.out, drop_at Hy.out, allB, hin]; rfl)
            clear hr
            go_wp2_with fail
            refine (l00In_b _ _ _ _ hin _).mono ?_
            rintro e w' ⟨rfl, rfl⟩
            go_wp2_with fail
            go_round
            case rel => exact ⟨k + 1, by omega, by go_num, HE.out⟩
            case measure => simp [intOf]; omega
        · have HE := Lib.hid (show wordsB its = q by rw [← HF.out, hr.out, List.drop_eq_nil_of_le (by rw [HL.out]; omega)]; rfl)
          clear hr
          go_wp2_with fail
          refine (l03All_c A' n' cp' its q _ H.out.rd' hn' HI.out HE.out).mono ?_
          rintro e w' ⟨rfl, rfl⟩
          go_wp2_with fail
          go_ret
          exact ⟨rfl, rfl⟩
    · have HF := Lib.hid (show false = q by rw [← HQ.out, decide_eq_false i3]; simp)
      go_enter Tryz.func65, Tryz.ntmps65
      go_wp2_with fail
      refine (l00In_b _ _ _ _ i1 _).mono ?_
      rintro e w' ⟨rfl, rfl⟩
      go_wp2_with fail
      go_ret
      exact ⟨by rw [← HF.out]; rfl, rfl⟩
  · have HF := Lib.hid (show false = q by rw [← HQ.out, decide_eq_false i2]; simp)
    go_enter Tryz.func65, Tryz.ntmps65
    go_wp2_with fail
    refine (l00In_b _ _ _ _ i1 _).mono ?_
    rintro e w' ⟨rfl, rfl⟩
    go_wp2_with fail
    go_ret
    exact ⟨by rw [← HF.out]; rfl, rfl⟩
set_option maxHeartbeats 2000000 in
set_option maxRecDepth 100000 in
theorem iValidProof_c (kd : Int) (A : Option Addr) (n cp : Nat) (xs : List Int) (A' : Option Addr) (n' cp' : Nat) (its : List It) (w : World) (h : RdS w ([sgI A n xs] ++ sgII A' n' its)) (hn : n ≤ 1000000000 ∧ n' ≤ 1000000000) (hi : ∀ t ∈ its, t.n ≤ 1000000000) :
    Calls Tryz.prog 43 #[.agg #[.int .i64 kd, .slice A n cp, .slice A' n' cp']] w fun e w' => e = .returned (.bool (proofB kd xs (its.map It.xs))) ∧ Below w.heap.size w w' := by
  obtain ⟨q, hq⟩ : ∃ q, proofB kd xs (its.map It.xs) = q := ⟨_, rfl⟩
  rw [hq]
  have HL := Lib.hid (show xs.length = n from RdI.len h.left.head)
  have HQ := Lib.hid (show (inB kd 1 8 && decide ((n : Int) ≤ 300) && decide ((n' : Int) ≤ 300) && allB (-1000000000000) 1000000000000 xs && wordsB its) = q by rw [← hq, proofB, HL.out, List.length_map, RdII.len h.right]; rfl)
  have H := Lib.hid h; have HI := Lib.hid hi; clear h hq hi
  cases i1 : inB kd 1 8
  · have HF := Lib.hid (show false = q by rw [← HQ.out, i1]; simp)
    go_enter Tryz.func43, Tryz.ntmps43
    go_wp2_with fail
    refine (within_b _ _ _ _ i1 _).mono ?_
    rintro e w' ⟨rfl, rfl⟩
    go_wp2_with fail
    go_ret
    exact ⟨by rw [← HF.out]; rfl, below_size.alloc (Nat.le_refl _) _⟩
  by_cases i2 : (n : Int) ≤ 300
  · by_cases i3 : (n' : Int) ≤ 300
    · have HF := Lib.hid (show (allB (-1000000000000) 1000000000000 xs && wordsB its) = q by rw [← HQ.out, i1, decide_eq_true i2, decide_eq_true i3]; simp)
      clear HQ
      obtain ⟨u, hu⟩ : ∃ u, allB (-1000000000000) 1000000000000 xs = u := ⟨_, rfl⟩
      obtain ⟨v, hv⟩ : ∃ v, wordsB its = v := ⟨_, rfl⟩
      have HU := Lib.hid (show (u && v) = q by rw [← HF.out, hu, hv])
      have HV := Lib.hid hv
      clear HF hv
      cases u
      · go_enter Tryz.func43, Tryz.ntmps43
        go_wp2_with fail
        refine (within_b _ _ _ _ i1 _).mono ?_
        rintro e w' ⟨rfl, rfl⟩
        go_wp2_with fail
        refine (allWithin_b A n cp xs _ _ false hu _ (Rd.alloc H.out.left.head _) (by omega)).mono ?_
        rintro e w' ⟨rfl, rfl⟩
        go_wp2_with fail
        go_ret
        exact ⟨by rw [← HU.out]; rfl, below_size.alloc (Nat.le_refl _) _⟩
      · go_enter Tryz.func43, Tryz.ntmps43
        go_wp2_with fail
        refine (within_b _ _ _ _ i1 _).mono ?_
        rintro e w' ⟨rfl, rfl⟩
        go_wp2_with fail
        refine (allWithin_b A n cp xs _ _ true hu _ (Rd.alloc H.out.left.head _) (by omega)).mono ?_
        rintro e w' ⟨rfl, rfl⟩
        go_wp2_with fail
        refine (areWords_c A' n' cp' its v _ (H.out.right.alloc _) hn.2 HI.out HV.out).mono ?_
        rintro e w' ⟨rfl, rfl⟩
        go_wp2_with fail
        go_ret
        exact ⟨by rw [← HU.out]; simp, below_size.alloc (Nat.le_refl _) _⟩
    · have HF := Lib.hid (show false = q by rw [← HQ.out, decide_eq_false i3]; simp)
      go_enter Tryz.func43, Tryz.ntmps43
      go_wp2_with fail
      refine (within_b _ _ _ _ i1 _).mono ?_
      rintro e w' ⟨rfl, rfl⟩
      go_wp2_with fail
      go_ret
      exact ⟨by rw [← HF.out]; rfl, below_size.alloc (Nat.le_refl _) _⟩
  · have HF := Lib.hid (show false = q by rw [← HQ.out, decide_eq_false i2]; simp)
    go_enter Tryz.func43, Tryz.ntmps43
    go_wp2_with fail
    refine (within_b _ _ _ _ i1 _).mono ?_
    rintro e w' ⟨rfl, rfl⟩
    go_wp2_with fail
    go_ret
    exact ⟨by rw [← HF.out]; rfl, below_size.alloc (Nat.le_refl _) _⟩
end Go.Proofs.YtdendllginlidaaGreatDoor
