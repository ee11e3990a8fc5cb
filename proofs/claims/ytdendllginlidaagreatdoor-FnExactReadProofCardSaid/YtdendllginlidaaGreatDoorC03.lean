/-
  Contracts of chapter 3 (words): words and lists of words.
-/
import Derived.Test.YtdendllginlidaaGreatDoorC05
import Derived.Test.YtdendllginlidaaGreatDoorSegII
namespace Go.Proofs.YtdendllginlidaaGreatDoor
open Go.RowKit

def wordB (xs : List Int) : Bool := decide ((xs.length : Int) ≤ 400) && allB 0 9 xs
theorem wordB_len {xs : List Int} {n : Nat} (h : xs.length = n) : wordB xs = (decide ((n : Int) ≤ 400) && allB 0 9 xs) := by rw [wordB, h]

theorem isLetters_c (A : Option Addr) (n cp : Nat) (xs : List Int) (w : World) (h : RdI w A n xs) (hn : n ≤ 1000000000) :
    Calls Tryz.prog 116 #[.slice A n cp] w fun e w' => e = .returned (.bool (allB 0 9 xs)) ∧ w = w' := by
  obtain ⟨u, hu⟩ : ∃ u, allB 0 9 xs = u := ⟨_, rfl⟩
  rw [hu]
  go_enter Tryz.func116, Tryz.ntmps116
  go_wp2_with fail
  refine (allWithin_b _ _ _ xs _ _ _ hu _ h (by omega)).mono ?_
  rintro e w' ⟨rfl, rfl⟩
  go_wp2_with fail
  go_ret
  exact ⟨rfl, rfl⟩
theorem isWord_c (A : Option Addr) (n cp : Nat) (xs : List Int) (q : Bool) (w : World) (h : RdI w A n xs) (hn : n ≤ 1000000000) (hq : wordB xs = q) :
    Calls Tryz.prog 91 #[.slice A n cp] w fun e w' => e = .returned (.bool q) ∧ w = w' := by
  have HQ := Lib.hid (show (decide ((n : Int) ≤ 400) && allB 0 9 xs) = q by rw [← hq, wordB_len h.len]); clear hq
  by_cases i1 : (n : Int) ≤ 400
  · have d1 : decide ((n : Int) ≤ 400) = true := by simpa using i1
    obtain ⟨u, hu⟩ : ∃ u, allB 0 9 xs = u := ⟨_, rfl⟩
    have HU := Lib.hid (show u = q by rw [← HQ.out, d1, hu]; simp)
    go_enter Tryz.func91, Tryz.ntmps91
    go_wp2_with fail
    refine (isLetters_c _ _ _ xs _ h hn).mono ?_
    rintro e w' ⟨rfl, rfl⟩
    rw [hu]
    clear hu
    go_wp2_with fail
    go_ret
    exact ⟨by rw [← HU.out]; rfl, rfl⟩
  · have d1 : decide ((n : Int) ≤ 400) = false := by simpa using i1
    have HU := Lib.hid (show false = q by rw [← HQ.out, d1]; simp)
    go_enter Tryz.func91, Tryz.ntmps91
    go_wp2_with fail
    go_ret
    exact ⟨by rw [← HU.out]; rfl, rfl⟩
set_option maxHeartbeats 1000000 in
theorem l03Is_c (A : Option Addr) (n cp : Nat) (xs : List Int) (q : Bool) (w : World) (h : RdI w A n xs) (hn : n ≤ 1000000000) (hq : wordB xs = q) :
    Calls Tryz.prog 111 #[.slice A n cp] w fun e w' => e = .returned (.bool q) ∧ w = w' := by
  have HL := Lib.hid h.len
  have HQ := Lib.hid (show (decide ((n : Int) ≤ 400) && allB 0 9 xs) = q by rw [← hq, wordB_len h.len])
  have H := Lib.hid h; clear hq h
  go_enter Tryz.func111, Tryz.ntmps111
  go_wp2_with fail
  go_loop [3] (fun iv => ∃ k : Nat, k ≤ n ∧ iv = .int .i64 k ∧ Hid (allB 0 9 xs = allB 0 9 (xs.drop k))) (fun iv => n - (intOf iv).toNat)
  case atStart => exact ⟨0, by omega, rfl, rfl⟩
  case round =>
    obtain ⟨k, hk, rfl, hr⟩ := hrel
    by_cases hlt : k < n
    · obtain ⟨ad, y, rfl, hab, hy, hcy⟩ := H.out.at_ hlt
      have Hy := Lib.hid hy; clear hy
      cases hin : inB y 0 9
      · have HE := Lib.hid (show false = q by rw [← HQ.out, hr.out, drop_at Hy.out, allB, hin]; simp)
        clear hr
        go_wp2_with fail
        refine (l00In_b _ _ _ _ hin _).mono ?_
        rintro e w' ⟨rfl, rfl⟩
        go_wp2_with fail
        go_ret
        exact ⟨by rw [← HE.out]; rfl, rfl⟩
      · have HE := Lib.hid (show allB 0 9 xs = allB 0 9 (xs.drop (k + 1)) by rw [hr.out, drop_at Hy.out, allB, hin]; rfl)
        clear hr
        go_wp2_with fail
        refine (l00In_b _ _ _ _ hin _).mono ?_
        rintro e w' ⟨rfl, rfl⟩
        go_wp2_with fail
        go_round
        case rel => exact ⟨k + 1, by omega, by go_num, HE.out⟩
        case measure => simp [intOf]; omega
    · have HA := Lib.hid (show allB 0 9 xs = true by rw [hr.out, List.drop_eq_nil_of_le (by rw [HL.out]; omega)]; rfl)
      have HE := Lib.hid (show decide ((n : Int) ≤ 400) = q by rw [← HQ.out, HA.out]; simp)
      clear hr
      go_wp2_with fail
      go_ret
      exact ⟨by rw [← HE.out]; simp, rfl⟩
def wordsX (xss : List (List Int)) : Bool := xss.all wordB
def wordsB (its : List It) : Bool := wordsX (its.map It.xs)
theorem wordsB_all (its : List It) : wordsB its = its.all fun t => wordB t.xs := by simp [wordsB, wordsX, Function.comp_def]
theorem wordsB_cons (t : It) (l : List It) : wordsB (t :: l) = (wordB t.xs && wordsB l) := rfl
set_option maxHeartbeats 1000000 in
theorem l03All_c (A : Option Addr) (n cp : Nat) (its : List It) (q : Bool) (w : World) (h : RdS w (sgII A n its)) (hn : n ≤ 1000000000) (hi : ∀ t ∈ its, t.n ≤ 1000000000) (hq : wordsB its = q) :
    Calls Tryz.prog 85 #[.slice A n cp] w fun e w' => e = .returned (.bool q) ∧ w = w' := by
  have HL := Lib.hid (RdII.len h)
  have HQ := Lib.hid hq; have HI := Lib.hid hi
  have H := Lib.hid h; clear hq h hi
  go_enter Tryz.func85, Tryz.ntmps85
  go_wp2_with fail
  go_loop [3] (fun iv => ∃ k : Nat, k ≤ n ∧ iv = .int .i64 k ∧ Hid (wordsB its = wordsB (its.drop k))) (fun iv => n - (intOf iv).toNat)
  case atStart => exact ⟨0, by omega, rfl, rfl⟩
  case round =>
    obtain ⟨k, hk, rfl, hr⟩ := hrel
    by_cases hlt : k < n
    · obtain ⟨ad, t, rfl, hab, ht, hc, hrd⟩ := RdII.at_ H.out hlt
      have hti := HI.out t (List.mem_of_getElem? ht)
      have HS := Lib.hid (show wordsB its = (wordB t.xs && wordsB (its.drop (k + 1))) by rw [hr.out, drop_at ht, wordsB_cons])
      have R := Lib.hid hrd
      clear ht hrd hr
      cases ho : wordB t.xs
      · have HE := Lib.hid (show false = q by rw [← HQ.out, HS.out, ho]; simp)
        clear HS
        go_wp2_with fail
        refine (l03Is_c _ _ _ t.xs false _ R.out.head hti ho).mono ?_
        rintro e w' ⟨rfl, rfl⟩
        go_wp2_with fail
        go_ret
        exact ⟨by rw [← HE.out]; rfl, rfl⟩
      · have HE := Lib.hid (show wordsB its = wordsB (its.drop (k + 1)) by rw [HS.out, ho]; simp)
        clear HS
        go_wp2_with fail
        refine (l03Is_c _ _ _ t.xs true _ R.out.head hti ho).mono ?_
        rintro e w' ⟨rfl, rfl⟩
        go_wp2_with fail
        go_round
        case rel => exact ⟨k + 1, by omega, by go_num, HE.out⟩
        case measure => simp [intOf]; omega
    · have HE := Lib.hid (show true = q by rw [← HQ.out, hr.out, List.drop_eq_nil_of_le (by rw [HL.out]; omega)]; rfl)
      clear hr
      go_wp2_with fail
      go_ret
      exact ⟨by rw [← HE.out]; rfl, rfl⟩
theorem areWords1_c (A : Option Addr) (n cp : Nat) (xs : List Int) (q : Bool) (w : World) (h : RdI w A n xs) (hn : n ≤ 1000000000) (hq : wordB xs = q) :
    Calls Tryz.prog 90 #[.slice A n cp] w fun e w' => e = .returned (.bool (!q)) ∧ w = w' := by
  go_enter Tryz.func90, Tryz.ntmps90
  go_wp2_with fail
  refine (isWord_c _ _ _ xs q _ h hn hq).mono ?_
  rintro e w' ⟨rfl, rfl⟩
  clear hq
  go_wp2_with fail
  go_ret
  exact ⟨rfl, rfl⟩
set_option maxHeartbeats 1000000 in
set_option maxRecDepth 100000 in
theorem indexWords_c (A : Option Addr) (n cp : Nat) (its : List It) (w : World) (h : RdS w (sgII A n its)) (hn : n ≤ 1000000000) (hi : ∀ t ∈ its, t.n ≤ 1000000000) :
    Calls Tryz.prog 115 #[.slice A n cp, .func (.func 90) #[] #[]] w fun e w' => e = .returned (.int .i64 (firstNot (fun t => wordB t.xs) 0 its)) ∧ w = w' := by
  have HL := Lib.hid (RdII.len h)
  have HI := Lib.hid hi
  have H := Lib.hid h; clear h hi
  obtain ⟨F, hF⟩ : ∃ F, firstNot (fun t => wordB t.xs) 0 its = F := ⟨_, rfl⟩
  rw [hF]
  have HF := Lib.hid hF; clear hF
  go_enter Tryz.func115, Tryz.ntmps115
  go_wp2_with fail
  go_loop [8] (fun iv => ∃ k : Nat, k ≤ n ∧ iv = .int .i64 k ∧ Hid (F = firstNot (fun t => wordB t.xs) k (its.drop k))) (fun iv => n - (intOf iv).toNat)
  case atStart => exact ⟨0, by omega, rfl, HF.out.symm⟩
  case round =>
    obtain ⟨k, hk, rfl, hr⟩ := hrel
    by_cases hlt : k < n
    · obtain ⟨ad, t, rfl, hab, ht, hc, hrd⟩ := RdII.at_ H.out hlt
      have hti := HI.out t (List.mem_of_getElem? ht)
      have HS := Lib.hid (show F = if wordB t.xs then firstNot (fun t => wordB t.xs) (k + 1) (its.drop (k + 1)) else k by rw [hr.out, drop_at ht, firstNot])
      have R := Lib.hid hrd
      clear ht hrd hr
      cases ho : wordB t.xs
      · have HE := Lib.hid (show F = k by rw [HS.out, ho]; rfl)
        clear HS
        go_wp2_with fail
        refine (areWords1_c _ _ _ t.xs false _ R.out.head hti ho).mono ?_
        rintro e w' ⟨rfl, rfl⟩
        clear ho
        go_wp2_with fail
        go_ret
        exact ⟨by rw [HE.out]; rfl, rfl⟩
      · have HE := Lib.hid (show F = firstNot (fun t => wordB t.xs) (k + 1) (its.drop (k + 1)) by rw [HS.out, ho]; rfl)
        clear HS
        go_wp2_with fail
        refine (areWords1_c _ _ _ t.xs true _ R.out.head hti ho).mono ?_
        rintro e w' ⟨rfl, rfl⟩
        clear ho
        go_wp2_with fail
        go_round
        case rel => exact ⟨k + 1, by omega, by go_num, HE.out⟩
        case measure => simp [intOf]; omega
    · have HE := Lib.hid (show F = -1 by rw [hr.out, List.drop_eq_nil_of_le (by rw [HL.out]; omega)]; rfl)
      clear hr
      go_wp2_with fail
      go_ret
      exact ⟨by rw [HE.out]; rfl, rfl⟩
theorem areWords_c (A : Option Addr) (n cp : Nat) (its : List It) (q : Bool) (w : World) (h : RdS w (sgII A n its)) (hn : n ≤ 1000000000) (hi : ∀ t ∈ its, t.n ≤ 1000000000) (hq : wordsB its = q) :
    Calls Tryz.prog 69 #[.slice A n cp] w fun e w' => e = .returned (.bool q) ∧ w = w' := by
  have hc : Calls Tryz.prog 89 #[.slice A n cp, .func (.func 90) #[] #[]] w fun e w' => e = .returned (.bool (!q)) ∧ w = w' := by
    have HR := Lib.hid (firstNot_all (fun t : It => wordB t.xs) its 0)
    have HQ := Lib.hid hq; clear hq
    go_enter Tryz.func89, Tryz.ntmps89
    go_wp2_with fail
    refine (indexWords_c A n cp its _ h hn hi).mono ?_
    rintro e w1 ⟨rfl, rfl⟩
    generalize firstNot (fun t : It => wordB t.xs) 0 its = E at *
    go_wp2_with fail
    go_ret
    exact ⟨by rw [← HQ.out, wordsB_all, ← HR.out]; rfl, rfl⟩
  clear hq
  go_enter Tryz.func69, Tryz.ntmps69
  go_wp2_with fail
  refine hc.mono ?_
  rintro e w' ⟨rfl, rfl⟩
  go_wp2_with fail
  go_ret
  exact ⟨by simp, rfl⟩
end Go.Proofs.YtdendllginlidaaGreatDoor
