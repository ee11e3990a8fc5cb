/-
  Contracts of chapter 22: the end of an expression, equal expressions.
-/
import Derived.Test.YtecpbgmcednpoaaPWf
import Derived.Test.YtecpbgmcednpoaaCWa
import Derived.Test.YtecpbgmcednpoaaCWf
namespace Go.Proofs.Ytecpbgmcednpoaa
open Go.RowKit

set_option maxHeartbeats 1000000 in
theorem l22End_c (A : Option Addr) (n cp : Nat) (c : List (Int × Int)) (k p z : Nat) (w : World) (h : Rd2 w A n c) (hn : n ≤ 1000000000) (hp : endP manyE (c.drop k) 1 = some p) (hz : k + p = z) :
    Calls Try.prog 55 #[.slice A n cp, .int .i64 k] w fun e w' => e = .returned (.int .i64 z) ∧ w = w' := by
  have HZ := Lib.hid hz
  clear hz
  have HL := Lib.hid h.len
  have HP := Lib.hid hp
  have H := Lib.hid h; clear h hp
  have hkn : k ≤ n := by
    rcases Nat.lt_or_ge n k with h | h
    · have := HP.out; rw [List.drop_eq_nil_of_le (by rw [HL.out]; omega)] at this; cases this
    · exact h
  go_enter Try.func55, Try.ntmps55
  go_wp2_with fail
  go_loop [1, 5] (fun kv ov => ∃ j o r : Nat, j ≤ n ∧ o ≤ j + 1 ∧ kv = .int .i64 j ∧ ov = .int .i64 o ∧ Hid (endP manyE (c.drop j) o = some r) ∧ Hid (j + r = z)) (fun kv _ => n - (intOf kv).toNat)
  case atStart => exact ⟨k, 1, p, hkn, by omega, rfl, rfl, HP.out, HZ.out⟩
  case round =>
    obtain ⟨j, o, r, hj, ho, rfl, rfl, hr, hs⟩ := hrel
    by_cases ho0 : o = 0
    · subst ho0
      have HR := Lib.hid (show j = z by have := hr.out; rw [endP_zero] at this; injection this with this; have := hs.out; omega)
      clear hr hs
      go_wp2_with fail
      go_ret
      exact ⟨by rw [HR.out]; rfl, rfl⟩
    have g0 : decide ((0 : Int) < (o : Int)) = true := by rw [decide_eq_true_eq]; omega
    have hlt : j < n := by
      rcases Nat.lt_or_ge j n with h | h
      · exact h
      · have := hr.out
        rw [List.drop_eq_nil_of_le (by rw [HL.out]; omega), show o = o - 1 + 1 by omega] at this; cases this
    obtain ⟨ad, x, rfl, hab, hx, hc0, hc1⟩ := H.out.at_ hlt
    obtain ⟨t, v⟩ := x
    obtain ⟨r', hr', HS⟩ : ∃ r', endP manyE (c.drop (j + 1)) (o - 1 + manyE t) = some r' ∧ Hid (j + 1 + r' = z) := by
      have h1 := hr.out
      rw [drop_at hx, show o = o - 1 + 1 by omega, endP_cons] at h1
      obtain ⟨r', h2, h3⟩ := Option.map_eq_some_iff.1 h1
      refine ⟨r', by simpa using h2, ?_⟩
      have := hs.out; unfold Hid; omega
    have HR := Lib.hid hr'
    clear hr hs hx hr'
    have hm := manyE_le t
    obtain ⟨f, hf⟩ : ∃ f, manyE t = f := ⟨_, rfl⟩
    have HC := Lib.hid (show ∀ w, Calls Try.prog 72 #[.int .i64 t] w fun e w' => e = .returned (.int .i64 f) ∧ w = w' from fun w => by rw [← hf]; exact l22Many_c t w)
    rw [hf] at HR hm
    have v1 : IntKind.i64.wrap ((f : Int) - 1) = (f : Int) - 1 := IntWalk.i64_in _ (by omega)
    have v2 : IntKind.i64.wrap ((o : Int) + ((f : Int) - 1)) = ((o - 1 + f : Nat) : Int) := by rw [IntWalk.i64_in _ (by omega)]; omega
    clear hf
    go_wp2_with (go_at_call 72; refine (HC.out _).mono ?_; rintro e w2 ⟨rfl, rfl⟩)
    go_round
    case rel => exact ⟨j + 1, o - 1 + f, r', by omega, by omega, by go_num, by go_num, HR.out, HS.out⟩
    case measure => simp [intOf]; omega
theorem pair_casesE (a b x y : Int) : ((a, b) = (x, y) ∧ a = x ∧ b = y) ∨ ((a, b) ≠ (x, y) ∧ ((a == x) = false ∨ (a = x ∧ (b == y) = false))) := by
  by_cases ha : a = x
  · by_cases hb : b = y
    · subst ha; subst hb; exact .inl ⟨rfl, rfl, rfl⟩
    · exact .inr ⟨fun e => by injection e with _ e; exact hb e, .inr ⟨ha, by simpa using hb⟩⟩
  · exact .inr ⟨fun e => by injection e with e _; exact ha e, .inl (by simpa using ha)⟩
set_option maxHeartbeats 1000000 in
theorem equalEx_c (A B : Option Addr) (n m c d : Nat) (xs ys : List (Int × Int)) (q : Bool) (w : World) (h : Rd2 w A n xs) (h' : Rd2 w B m ys) (hn : n ≤ 1000000000) (hq : decide (xs = ys) = q) :
    Calls Try.prog 58 #[.slice A n c, .slice B m d] w fun e w' => e = .returned (.bool q) ∧ ∃ k, w' = w.drewN k := by
  have HL := Lib.hid h.len; have HL' := Lib.hid h'.len
  have H := Lib.hid h; have H' := Lib.hid h'; have HQ := Lib.hid hq; clear h h' hq
  by_cases hnm : n = m
  case neg =>
    have g1 : ((n : Int) != (m : Int)) = true := by simp; omega
    have HG := Lib.hid (show false = q by
      rw [← HQ.out, decide_eq_false]
      intro e; apply hnm; rw [← HL.out, ← HL'.out, e])
    go_enter Try.func58, Try.ntmps58
    go_wp2_with fail
    go_ret
    exact ⟨by rw [← HG.out]; rfl, 0, rfl⟩
  subst hnm
  go_enter Try.func58, Try.ntmps58
  go_wp2_with fail
  go_loopw [13] (fun iv wr => ∃ k : Nat, k ≤ n ∧ iv = .int .i64 k ∧ Hid (decide (xs.drop k = ys.drop k) = q) ∧ ∃ j, wr = w.drewN j) (fun iv _ => n - (intOf iv).toNat)
  case atStart => exact ⟨0, by omega, rfl, HQ.out, 0, rfl⟩
  case round =>
    obtain ⟨k, hk, rfl, hr, j, rfl⟩ := hrel
    by_cases hlt : k < n
    · obtain ⟨ad, x, rfl, _, hx, hc0, hc1⟩ := H.out.at_ hlt
      obtain ⟨ad', y, rfl, _, hy, hd0, hd1⟩ := H'.out.at_ hlt
      have hc0 : (w.drewN j).cell? (ad.add (k * 2)) = some (i64 x.1) := hc0
      have hc1 : (w.drewN j).cell? ⟨(ad.add (k * 2)).block, (ad.add (k * 2)).off + 1, none⟩ = some (i64 x.2) := hc1
      have hd0 : (w.drewN j).cell? (ad'.add (k * 2)) = some (i64 y.1) := hd0
      have hd1 : (w.drewN j).cell? ⟨(ad'.add (k * 2)).block, (ad'.add (k * 2)).off + 1, none⟩ = some (i64 y.2) := hd1
      obtain ⟨p, v⟩ := x
      obtain ⟨a, b⟩ := y
      have HS := Lib.hid (show decide ((p, v) :: xs.drop (k + 1) = (a, b) :: ys.drop (k + 1)) = q by rw [← hr.out, drop_at hx, drop_at hy])
      simp only at hc0 hc1 hd0 hd1
      clear hx hy hr
      rcases pair_casesE p v a b with ⟨_, rfl, rfl⟩ | ⟨hne, hne2⟩
      · have HG := Lib.hid (show decide (xs.drop (k + 1) = ys.drop (k + 1)) = q by rw [← HS.out]; simp)
        go_wp2_with fail
        go_quiet (fail)
        go_wp2_with fail
        go_roundw
        case rel => exact ⟨k + 1, by omega, by go_num, HG.out, _, rfl⟩
        case measure => simp [intOf]; omega
      · have HG := Lib.hid (show false = q by
          rw [← HS.out, decide_eq_false]
          intro e; injection e with e _; exact hne e)
        rcases hne2 with g1 | ⟨rfl, g1⟩
        · go_wp2_with fail
          go_quiet (fail)
          go_wp2_with fail
          go_ret
          exact ⟨by rw [← HG.out]; rfl, _, by rw [World.drewN_drewN]⟩
        · go_wp2_with fail
          go_quiet (fail)
          go_wp2_with fail
          go_ret
          exact ⟨by rw [← HG.out]; rfl, _, by rw [World.drewN_drewN]⟩
    · have HG := Lib.hid (show true = q by rw [← hr.out, List.drop_eq_nil_of_le (by rw [HL.out]; omega), List.drop_eq_nil_of_le (by rw [HL'.out]; omega)]; rfl)
      go_wp2_with fail
      go_ret
      exact ⟨by rw [← HG.out]; rfl, _, rfl⟩
set_option maxHeartbeats 1000000 in
theorem l22SameExpr_c (A B : Option Addr) (n m c d : Nat) (xs ys : List (Int × Int)) (q : Bool) (w : World) (h : Rd2 w A n xs) (h' : Rd2 w B m ys) (hn : n ≤ 1000000000) (hq : decide (xs = ys) = q) :
    Calls Try.prog 56 #[.slice A n c, .slice B m d] w fun e w' => e = .returned (.bool q) ∧ ∃ k, w' = w.drewN k := by
  have HL := Lib.hid h.len; have HL' := Lib.hid h'.len
  have H := Lib.hid h; have H' := Lib.hid h'; have HQ := Lib.hid hq; clear h h' hq
  by_cases hnm : n = m
  case neg =>
    have g1 : ((n : Int) != (m : Int)) = true := by simp; omega
    have HG := Lib.hid (show false = q by
      rw [← HQ.out, decide_eq_false]
      intro e; apply hnm; rw [← HL.out, ← HL'.out, e])
    go_enter Try.func56, Try.ntmps56
    go_wp2_with fail
    go_ret
    exact ⟨by rw [← HG.out]; rfl, 0, rfl⟩
  subst hnm
  go_enter Try.func56, Try.ntmps56
  go_wp2_with fail
  go_loopw [5] (fun iv wr => ∃ k : Nat, k ≤ n ∧ iv = .int .i64 k ∧ Hid (decide (xs.drop k = ys.drop k) = q) ∧ ∃ j, wr = w.drewN j) (fun iv _ => n - (intOf iv).toNat)
  case atStart => exact ⟨0, by omega, rfl, HQ.out, 0, rfl⟩
  case round =>
    obtain ⟨k, hk, rfl, hr, j, rfl⟩ := hrel
    by_cases hlt : k < n
    · obtain ⟨ad, x, rfl, _, hx, hc0, hc1⟩ := H.out.at_ hlt
      obtain ⟨ad', y, rfl, _, hy, hd0, hd1⟩ := H'.out.at_ hlt
      have hc0 : (w.drewN j).cell? (ad.add (k * 2)) = some (i64 x.1) := hc0
      have hc1 : (w.drewN j).cell? ⟨(ad.add (k * 2)).block, (ad.add (k * 2)).off + 1, none⟩ = some (i64 x.2) := hc1
      have hd0 : (w.drewN j).cell? (ad'.add (k * 2)) = some (i64 y.1) := hd0
      have hd1 : (w.drewN j).cell? ⟨(ad'.add (k * 2)).block, (ad'.add (k * 2)).off + 1, none⟩ = some (i64 y.2) := hd1
      obtain ⟨p, v⟩ := x
      obtain ⟨a, b⟩ := y
      have HS := Lib.hid (show decide ((p, v) :: xs.drop (k + 1) = (a, b) :: ys.drop (k + 1)) = q by rw [← hr.out, drop_at hx, drop_at hy])
      simp only at hc0 hc1 hd0 hd1
      clear hx hy hr
      rcases pair_casesE p v a b with ⟨_, rfl, rfl⟩ | ⟨hne, hne2⟩
      · have HG := Lib.hid (show decide (xs.drop (k + 1) = ys.drop (k + 1)) = q by rw [← HS.out]; simp)
        go_wp2_with fail
        go_quiet (fail)
        go_wp2_with fail
        go_roundw
        case rel => exact ⟨k + 1, by omega, by go_num, HG.out, _, rfl⟩
        case measure => simp [intOf]; omega
      · have HG := Lib.hid (show false = q by
          rw [← HS.out, decide_eq_false]
          intro e; injection e with e _; exact hne e)
        rcases hne2 with g1 | ⟨rfl, g1⟩
        · go_wp2_with fail
          go_quiet (fail)
          go_wp2_with fail
          go_ret
          exact ⟨by rw [← HG.out]; rfl, _, by rw [World.drewN_drewN]⟩
        · go_wp2_with fail
          go_quiet (fail)
          go_wp2_with fail
          go_ret
          exact ⟨by rw [← HG.out]; rfl, _, by rw [World.drewN_drewN]⟩
    · have HG := Lib.hid (show true = q by rw [← hr.out, List.drop_eq_nil_of_le (by rw [HL.out]; omega), List.drop_eq_nil_of_le (by rw [HL'.out]; omega)]; rfl)
      go_wp2_with fail
      go_ret
      exact ⟨by rw [← HG.out]; rfl, _, rfl⟩
end Go.Proofs.Ytecpbgmcednpoaa
