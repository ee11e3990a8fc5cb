/-
  Contracts of chapter 16: the letters of the states: both closures, the first index of one.
-/
import Derived.Test.YtcbcjhfeidkeaaaC16g
namespace Go.Proofs.Ytcbcjhfeidkeaaa
open Go.RowKit

theorem shown1_c (x s e : Int) (g : Nat) (b : Bool) (w : World) (hg : Blk w g 99 #[.int .i64 s, .int .i64 e]) (hb : decide (s ≤ x) = b) :
    Calls Try.prog 87 #[.int .i64 x, .pointer (some ⟨g, 0, none⟩)] w fun e w' => e = .returned (.bool b) ∧ w = w' := by
  have h0 : w.cell? ⟨g, 0, none⟩ = some (.int .i64 s) := hg.cell 0
  clear hg
  cases b <;> (
    go_enter Try.func87, Try.ntmps87
    go_wp2_with fail
    go_ret
    exact ⟨rfl, rfl⟩)
theorem onlyMove1_c (x s e : Int) (g : Nat) (b : Bool) (w : World) (hg : Blk w g 99 #[.int .i64 s, .int .i64 e]) (hb : stB s e x = b) :
    Calls Try.prog 98 #[.int .i64 x, .pointer (some ⟨g, 0, none⟩)] w fun e w' => e = .returned (.bool b) ∧ w = w' := by
  have h0 : w.cell? ⟨g, 0, none⟩ = some (.int .i64 s) := hg.cell 0
  have h1 : w.cell? ⟨g, 1, none⟩ = some (.int .i64 e) := hg.cell 1
  clear hg
  rw [← hb, stB]
  clear hb
  by_cases k1 : s ≤ x
  · have d1 := decide_eq_true k1
    by_cases k2 : x < e
    · have d2 := decide_eq_true k2
      rw [d1, d2]
      go_enter Try.func98, Try.ntmps98
      go_wp2_with fail
      go_ret
      exact ⟨rfl, rfl⟩
    · have d2 := decide_eq_false k2
      rw [d1, d2]
      go_enter Try.func98, Try.ntmps98
      go_wp2_with fail
      go_ret
      exact ⟨rfl, rfl⟩
  · have d1 := decide_eq_false k1
    rw [d1, Bool.false_and]
    go_enter Try.func98, Try.ntmps98
    go_wp2_with fail
    go_ret
    exact ⟨rfl, rfl⟩
set_option maxHeartbeats 2000000 in
set_option maxRecDepth 100000 in
theorem indexShown_c (s e : Int) (A : Option Addr) (n cp g : Nat) (xs : List Int) (w : World) (hg : Blk w g 99 #[.int .i64 s, .int .i64 e]) (h : RdI w A n xs) (hn : n ≤ 1000000000) :
    Calls Try.prog 86 #[.slice A n cp, .func (.func 87) #[] #[.pointer (some ⟨g, 0, none⟩)]] w fun e' w' => e' = .returned (.int .i64 (firstS (fun x => decide (s ≤ x)) 0 xs)) ∧ w = w' := by
  have HL := Lib.hid h.len
  have H := Lib.hid h; have HG := Lib.hid hg; clear h hg
  go_enter Try.func86, Try.ntmps86
  go_wp2_with fail
  go_loopw [8] (fun iv wr => ∃ k : Nat, k ≤ n ∧ iv = .int .i64 k ∧ Hid (firstS (fun x => decide (s ≤ x)) 0 xs = firstS (fun x => decide (s ≤ x)) k (xs.drop k)) ∧ w = wr) (fun iv _ => n - (intOf iv).toNat)
  case atStart => exact ⟨0, by omega, rfl, rfl, rfl⟩
  case round =>
    obtain ⟨k, hk, rfl, hr, rfl⟩ := hrel
    by_cases hlt : k < n
    · obtain ⟨ad, x, rfl, hab, hx, hc0⟩ := RdI.at_ H.out hlt
      have HS := Lib.hid (show firstS (fun x => decide (s ≤ x)) 0 xs = if (fun x => decide (s ≤ x)) x = true then (k : Int) else firstS (fun x => decide (s ≤ x)) (k + 1) (xs.drop (k + 1)) by rw [hr.out, drop_at hx, firstS])
      clear hx hr
      obtain ⟨b, ho⟩ : ∃ b, (fun x => decide (s ≤ x)) x = b := ⟨_, rfl⟩
      cases b
      · have HS2 := Lib.hid (show firstS (fun x => decide (s ≤ x)) 0 xs = firstS (fun x => decide (s ≤ x)) (k + 1) (xs.drop (k + 1)) by rw [HS.out, if_neg (by rw [ho]; simp)])
        clear HS
        go_wp2_with fail
        refine (shown1_c x s e g false w HG.out ho).mono ?_
        rintro e' w' ⟨rfl, rfl⟩
        clear ho
        go_wp2_with fail
        go_roundw
        case rel => exact ⟨k + 1, by omega, by go_num, HS2.out, trivial⟩
        case measure => simp [intOf]; omega
      · have HS2 := Lib.hid (show firstS (fun x => decide (s ≤ x)) 0 xs = k by rw [HS.out, if_pos ho])
        clear HS
        go_wp2_with fail
        refine (shown1_c x s e g true w HG.out ho).mono ?_
        rintro e' w' ⟨rfl, rfl⟩
        clear ho
        go_wp2_with fail
        go_ret
        exact ⟨by rw [HS2.out]; rfl, rfl⟩
    · have HS := Lib.hid (show firstS (fun x => decide (s ≤ x)) 0 xs = -1 by rw [hr.out, List.drop_eq_nil_of_le (by rw [HL.out]; omega)]; rfl)
      clear hr
      go_wp2_with fail
      go_ret
      exact ⟨by rw [HS.out]; rfl, rfl⟩
set_option maxHeartbeats 2000000 in
set_option maxRecDepth 100000 in
theorem indexMove_c (s e : Int) (A : Option Addr) (n cp g : Nat) (xs : List Int) (w : World) (hg : Blk w g 99 #[.int .i64 s, .int .i64 e]) (h : RdI w A n xs) (hn : n ≤ 1000000000) :
    Calls Try.prog 86 #[.slice A n cp, .func (.func 98) #[] #[.pointer (some ⟨g, 0, none⟩)]] w fun e' w' => e' = .returned (.int .i64 (firstS (stB s e) 0 xs)) ∧ w = w' := by
  have HL := Lib.hid h.len
  have H := Lib.hid h; have HG := Lib.hid hg; clear h hg
  go_enter Try.func86, Try.ntmps86
  go_wp2_with fail
  go_loopw [8] (fun iv wr => ∃ k : Nat, k ≤ n ∧ iv = .int .i64 k ∧ Hid (firstS (stB s e) 0 xs = firstS (stB s e) k (xs.drop k)) ∧ w = wr) (fun iv _ => n - (intOf iv).toNat)
  case atStart => exact ⟨0, by omega, rfl, rfl, rfl⟩
  case round =>
    obtain ⟨k, hk, rfl, hr, rfl⟩ := hrel
    by_cases hlt : k < n
    · obtain ⟨ad, x, rfl, hab, hx, hc0⟩ := RdI.at_ H.out hlt
      have HS := Lib.hid (show firstS (stB s e) 0 xs = if (stB s e) x = true then (k : Int) else firstS (stB s e) (k + 1) (xs.drop (k + 1)) by rw [hr.out, drop_at hx, firstS])
      clear hx hr
      obtain ⟨b, ho⟩ : ∃ b, (stB s e) x = b := ⟨_, rfl⟩
      cases b
      · have HS2 := Lib.hid (show firstS (stB s e) 0 xs = firstS (stB s e) (k + 1) (xs.drop (k + 1)) by rw [HS.out, if_neg (by rw [ho]; simp)])
        clear HS
        go_wp2_with fail
        refine (onlyMove1_c x s e g false w HG.out ho).mono ?_
        rintro e' w' ⟨rfl, rfl⟩
        clear ho
        go_wp2_with fail
        go_roundw
        case rel => exact ⟨k + 1, by omega, by go_num, HS2.out, trivial⟩
        case measure => simp [intOf]; omega
      · have HS2 := Lib.hid (show firstS (stB s e) 0 xs = k by rw [HS.out, if_pos ho])
        clear HS
        go_wp2_with fail
        refine (onlyMove1_c x s e g true w HG.out ho).mono ?_
        rintro e' w' ⟨rfl, rfl⟩
        clear ho
        go_wp2_with fail
        go_ret
        exact ⟨by rw [HS2.out]; rfl, rfl⟩
    · have HS := Lib.hid (show firstS (stB s e) 0 xs = -1 by rw [hr.out, List.drop_eq_nil_of_le (by rw [HL.out]; omega)]; rfl)
      clear hr
      go_wp2_with fail
      go_ret
      exact ⟨by rw [HS.out]; rfl, rfl⟩
end Go.Proofs.Ytcbcjhfeidkeaaa
