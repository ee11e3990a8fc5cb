/-
  Contracts of chapter 22: valid expressions, of the reference and of the program.
-/
import Derived.Test.YtkchgjegdmcnaaaDoorPW
import Derived.Test.YtkchgjegdmcnaaaDoorLawCommandS
namespace Go.Proofs.YtkchgjegdmcnaaaDoor
open Go.RowKit

theorem l22Many_c (k : Int) (w : World) : Calls Tryd.prog 49 #[.int .i64 k] w fun e w' => e = .returned (.int .i64 (manyE k)) ∧ w = w' := by
  by_cases h3 : k = 3
  · subst h3
    go_enter Tryd.func49, Tryd.ntmps49
    go_wp2_with fail
    go_ret
    exact ⟨rfl, rfl⟩
  by_cases h4 : k = 4
  · subst h4
    go_enter Tryd.func49, Tryd.ntmps49
    go_wp2_with fail
    go_ret
    exact ⟨rfl, rfl⟩
  have g3 : (k == 3) = false := by simpa using h3
  have g4 : (k == 4) = false := by simpa using h4
  by_cases h2 : k = 2
  · subst h2
    go_enter Tryd.func49, Tryd.ntmps49
    go_wp2_with fail
    go_ret
    exact ⟨rfl, rfl⟩
  by_cases h5 : k = 5
  · subst h5
    go_enter Tryd.func49, Tryd.ntmps49
    go_wp2_with fail
    go_ret
    exact ⟨rfl, rfl⟩
  have g2 : (k == 2) = false := by simpa using h2
  have g5 : (k == 5) = false := by simpa using h5
  have hm : manyE k = 0 := by rw [manyE, if_neg (by omega), if_neg (by omega)]
  rw [hm]
  go_enter Tryd.func49, Tryd.ntmps49
  go_wp2_with fail
  go_ret
  exact ⟨rfl, rfl⟩
set_option maxHeartbeats 2000000 in
set_option maxRecDepth 100000 in
theorem l22Expr_c (A : Option Addr) (n cp : Nat) (c : List (Int × Int)) (q : Bool) (w : World) (h : Rd2 w A n c) (hn : n ≤ 1000000000) (hq : validE c = q) :
    Calls Tryd.prog 31 #[.slice A n cp] w fun e w' => e = .returned (.bool q) ∧ Below w.heap.size w w' := by
  have HL := Lib.hid h.len
  have HQ := Lib.hid (show (inB n 1 40 && needE c 1) = q by rw [← hq, validE_need, h.len])
  have H := Lib.hid h; clear h hq
  cases hb1 : inB n 1 40
  · have HF := Lib.hid (show false = q by rw [← HQ.out, hb1]; rfl)
    have hn1 := inB_f hb1
    by_cases h1 : (n : Int) < 1
    · have k1 : decide ((n : Int) < 1) = true := by simpa using h1
      go_enter Tryd.func31, Tryd.ntmps31
      go_wp2_with fail
      go_ret
      exact ⟨by rw [← HF.out]; rfl, below_size⟩
    · have k1 : decide ((n : Int) < 1) = false := by simpa using h1
      have k2 : decide ((40 : Int) < (n : Int)) = true := by rw [decide_eq_true_eq]; omega
      go_enter Tryd.func31, Tryd.ntmps31
      go_wp2_with fail
      go_ret
      exact ⟨by rw [← HF.out]; rfl, below_size⟩
  have hn1 := inB_t hb1
  have HF := Lib.hid (show needE c 1 = q by rw [← HQ.out, hb1]; rfl)
  have k1 : decide ((n : Int) < 1) = false := by rw [decide_eq_false_iff_not]; omega
  have k2 : decide ((40 : Int) < (n : Int)) = false := by rw [decide_eq_false_iff_not]; omega
  clear HQ
  go_enter Tryd.func31, Tryd.ntmps31
  go_wp2_with fail
  clear k1 k2
  go_loopw [3, 4] (fun ov iv wr => ∃ k o : Nat, k ≤ n ∧ o ≤ k + 1 ∧ iv = .int .i64 k ∧ ov = .int .i64 o ∧ Hid (needE (c.drop k) o = q) ∧ Below w.heap.size w wr) (fun _ iv _ => n - (intOf iv).toNat)
  case atStart => exact ⟨0, 1, by omega, by omega, rfl, rfl, HF.out, below_size⟩
  case round =>
    obtain ⟨k, o, hk, ho, rfl, rfl, hr, hb⟩ := hrel
    have HB := Lib.hid hb
    by_cases hlt : k < n
    · obtain ⟨ad, x, rfl, hab, hx, hc0, hc1⟩ := (H.out.below hb).at_ hlt
      obtain ⟨p, v⟩ := x
      have HS := Lib.hid (show (o != 0 && okE (p, v) && needE (c.drop (k + 1)) (o - 1 + manyE p)) = q by rw [← hr.out, drop_at hx]; rfl)
      clear hx hb hr
      by_cases ho0 : o = 0
      · subst ho0
        have HG := Lib.hid (show false = q by rw [← HS.out]; rfl)
        go_wp2_with fail
        go_ret
        exact ⟨by rw [← HG.out]; rfl, HB.out⟩
      have g0 : ((o : Int) == 0) = false := by simp; omega
      have HS' := Lib.hid (show (okE (p, v) && needE (c.drop (k + 1)) (o - 1 + manyE p)) = q by have h := HS.out; rw [show (o != 0) = true by simpa using ho0, Bool.true_and] at h; exact h)
      clear HS
      cases hp : inB p 0 5
      · have HG := Lib.hid (show false = q by rw [← HS'.out]; simp [okE, hp])
        go_wp2_with (go_at_call 32; refine (l00In_b _ _ _ _ (by assumption) _).mono ?_; rintro e w' ⟨rfl, rfl⟩)
        go_ret
        exact ⟨by rw [← HG.out]; rfl, HB.out⟩
      have hm := manyE_le p
      obtain ⟨f, hf⟩ : ∃ f, manyE p = f := ⟨_, rfl⟩
      have HC := Lib.hid (show ∀ w, Calls Tryd.prog 49 #[.int .i64 p] w fun e w' => e = .returned (.int .i64 f) ∧ w = w' from fun w => by rw [← hf]; exact l22Many_c p w)
      rw [hf] at hm HS'
      have v1 : IntKind.i64.wrap ((f : Int) - 1) = (f : Int) - 1 := IntWalk.i64_in _ (by omega)
      have v2 : IntKind.i64.wrap ((o : Int) + ((f : Int) - 1)) = ((o - 1 + f : Nat) : Int) := by rw [IntWalk.i64_in _ (by omega)]; omega
      by_cases h1 : p = 1
      · subst h1
        have hf0 : f = 0 := by rw [← hf]; rfl
        clear hf
        cases hv : inB v 0 5
        · have HG := Lib.hid (show false = q by rw [← HS'.out]; simp [okE, hv])
          go_wp2_with (go_at_call 32; refine (l00In_b _ _ _ _ (by assumption) _).mono ?_; rintro e w' ⟨rfl, rfl⟩)
          go_ret
          exact ⟨by rw [← HG.out]; rfl, HB.out⟩
        · have HG := Lib.hid (show needE (c.drop (k + 1)) (o - 1 + f) = q by rw [← HS'.out]; simp [okE, hp, hv])
          clear HS' hf0
          go_wp2_with (first | (go_at_call 32; refine (l00In_b _ _ _ _ (by assumption) _).mono ?_; rintro e w' ⟨rfl, rfl⟩) | (go_at_call 49; refine (HC.out _).mono ?_; rintro e w' ⟨rfl, rfl⟩))
          go_roundw
          case rel => exact ⟨k + 1, o - 1 + f, by omega, by omega, by go_num, by go_num, HG.out, HB.out⟩
          case measure => simp [intOf]; omega
      clear hf
      have g4 : (p == 1) = false := by simpa using h1
      have g4' : (p != 1) = true := by simpa using h1
      by_cases hv : v = 0
      · subst hv
        have HG := Lib.hid (show needE (c.drop (k + 1)) (o - 1 + f) = q by rw [← HS'.out]; simp [okE, hp, show inB 0 0 5 = true from rfl])
        clear HS'
        go_wp2_with (first | (go_at_call 32; refine (l00In_b _ _ _ _ (by assumption) _).mono ?_; rintro e w' ⟨rfl, rfl⟩) | (go_at_call 49; refine (HC.out _).mono ?_; rintro e w' ⟨rfl, rfl⟩))
        go_roundw
        case rel => exact ⟨k + 1, o - 1 + f, by omega, by omega, by go_num, by go_num, HG.out, HB.out⟩
        case measure => simp [intOf]; omega
      · have gv : (v == 0) = false := by simpa using hv
        have gv' : (v != 0) = true := by simpa using hv
        have HG := Lib.hid (show false = q by rw [← HS'.out]; simp [okE, h1, hv])
        go_wp2_with (go_at_call 32; refine (l00In_b _ _ _ _ (by assumption) _).mono ?_; rintro e w' ⟨rfl, rfl⟩)
        go_ret
        exact ⟨by rw [← HG.out]; rfl, HB.out⟩
    · have HG := Lib.hid (show (o == 0) = q by rw [← hr.out, List.drop_eq_nil_of_le (by rw [HL.out]; omega)]; rfl)
      clear hb hr
      by_cases h0 : o = 0
      · subst h0
        go_wp2_with fail
        go_ret
        exact ⟨by rw [← HG.out]; rfl, HB.out⟩
      · have e1 : ((o : Int) == 0) = false := by simp; omega
        have HG' := Lib.hid (show false = q by rw [← HG.out]; simpa using h0)
        go_wp2_with fail
        go_ret
        exact ⟨by rw [← HG'.out]; rfl, HB.out⟩
theorem isWhileVariable_b (v : Int) (b : Bool) (hb : inB v 0 5 = b) (w : World) : Calls Tryd.prog 52 #[.int .i64 v] w fun e w' => e = .returned (.bool b) ∧ w = w' := by
  go_enter Tryd.func52, Tryd.ntmps52
  go_wp2_with (go_at_call 53; refine (within_b _ _ _ _ hb _).mono ?_; rintro e w' ⟨rfl, rfl⟩)
  go_ret
  exact ⟨rfl, rfl⟩
theorem exprFollow_c (a b : Int) (w : World) : Calls Tryd.prog 64 #[.agg #[.int .i64 a, .int .i64 b]] w fun e w' => e = .returned (.int .i64 (manyE a)) ∧ Below w.heap.size w w' := by
  by_cases h3 : a = 3
  · subst h3
    go_enter Tryd.func64, Tryd.ntmps64
    go_wp2_with fail
    go_ret
    exact ⟨rfl, (by have hzz := ((below_size : Below w.heap.size w w)).size; repeat' (first | (with_reducible exact (below_size : Below w.heap.size w w)) | (with_reducible refine Below.alloc ?_ ?_ _) | (with_reducible refine Below.setCell ?_ ?_ _) | (with_reducible refine below_drew ?_) | omega | (simp; done) | (simp; omega)))⟩
  by_cases h4 : a = 4
  · subst h4
    go_enter Tryd.func64, Tryd.ntmps64
    go_wp2_with fail
    go_ret
    exact ⟨rfl, (by have hzz := ((below_size : Below w.heap.size w w)).size; repeat' (first | (with_reducible exact (below_size : Below w.heap.size w w)) | (with_reducible refine Below.alloc ?_ ?_ _) | (with_reducible refine Below.setCell ?_ ?_ _) | (with_reducible refine below_drew ?_) | omega | (simp; done) | (simp; omega)))⟩
  have g3 : (a == 3) = false := by simpa using h3
  have g4 : (a == 4) = false := by simpa using h4
  by_cases h2 : a = 2
  · subst h2
    go_enter Tryd.func64, Tryd.ntmps64
    go_wp2_with fail
    go_ret
    exact ⟨rfl, (by have hzz := ((below_size : Below w.heap.size w w)).size; repeat' (first | (with_reducible exact (below_size : Below w.heap.size w w)) | (with_reducible refine Below.alloc ?_ ?_ _) | (with_reducible refine Below.setCell ?_ ?_ _) | (with_reducible refine below_drew ?_) | omega | (simp; done) | (simp; omega)))⟩
  by_cases h5 : a = 5
  · subst h5
    go_enter Tryd.func64, Tryd.ntmps64
    go_wp2_with fail
    go_ret
    exact ⟨rfl, (by have hzz := ((below_size : Below w.heap.size w w)).size; repeat' (first | (with_reducible exact (below_size : Below w.heap.size w w)) | (with_reducible refine Below.alloc ?_ ?_ _) | (with_reducible refine Below.setCell ?_ ?_ _) | (with_reducible refine below_drew ?_) | omega | (simp; done) | (simp; omega)))⟩
  have g2 : (a == 2) = false := by simpa using h2
  have g5 : (a == 5) = false := by simpa using h5
  have hm : manyE a = 0 := by rw [manyE, if_neg (by omega), if_neg (by omega)]
  rw [hm]
  go_enter Tryd.func64, Tryd.ntmps64
  go_wp2_with fail
  go_ret
  exact ⟨rfl, (by have hzz := ((below_size : Below w.heap.size w w)).size; repeat' (first | (with_reducible exact (below_size : Below w.heap.size w w)) | (with_reducible refine Below.alloc ?_ ?_ _) | (with_reducible refine Below.setCell ?_ ?_ _) | (with_reducible refine below_drew ?_) | omega | (simp; done) | (simp; omega)))⟩
set_option maxHeartbeats 1000000 in
theorem termEndExpr_c (A : Option Addr) (n cp : Nat) (c : List (Int × Int)) (k : Nat) (z : Int) (w : World) (h : Rd2 w A n c) (hn : n ≤ 1000000000) (hkn : k ≤ n) (hz : resE manyE c k 1 = z) :
    Calls Tryd.prog 63 #[.slice A n cp, .int .i64 k, .func (.func 64) #[] #[]] w fun e w' => e = .returned (.int .i64 z) ∧ Below w.heap.size w w' := by
  have HL := Lib.hid h.len
  have HZ := Lib.hid hz
  have H := Lib.hid h; clear h hz
  go_enter Tryd.func63, Tryd.ntmps63
  go_wp2_with fail
  go_loopw [1, 7] (fun kv ov wr => ∃ j o : Nat, j ≤ n ∧ o ≤ j + 1 ∧ kv = .int .i64 j ∧ ov = .int .i64 o ∧ Hid (resE manyE c j o = z) ∧ Below w.heap.size w wr) (fun kv _ _ => n - (intOf kv).toNat)
  case atStart => exact ⟨k, 1, hkn, by omega, rfl, rfl, HZ.out, below_size⟩
  case round =>
    obtain ⟨j, o, hj, ho, rfl, rfl, hr, hb⟩ := hrel
    have HB := Lib.hid hb
    by_cases ho0 : o = 0
    · subst ho0
      have HR := Lib.hid (show (j : Int) = z by rw [← hr.out, resE_zero])
      clear hr hb
      go_wp2_with fail
      go_ret
      exact ⟨by rw [← HR.out]; rfl, HB.out⟩
    have g0 : decide ((0 : Int) < (o : Int)) = true := by rw [decide_eq_true_eq]; omega
    by_cases hlt : j < n
    · obtain ⟨ad, x, rfl, hab, hx, hc0, hc1⟩ := (H.out.below hb).at_ hlt
      have HR := Lib.hid (show resE manyE c (j + 1) (o - 1 + manyE x.1) = z by rw [← hr.out, show o = o - 1 + 1 by omega, resE_step hx, Nat.add_sub_cancel])
      obtain ⟨t, v⟩ := x
      simp only at hc0 hc1 HR
      clear hr hx hb
      have hm := manyE_le t
      obtain ⟨f, hf⟩ : ∃ f, manyE t = f := ⟨_, rfl⟩
      have HC := Lib.hid (show ∀ w, Calls Tryd.prog 64 #[.agg #[.int .i64 t, .int .i64 v]] w fun e w' => e = .returned (.int .i64 f) ∧ Below w.heap.size w w' from fun w => by rw [← hf]; exact exprFollow_c t v w)
      rw [hf] at HR hm
      have v1 : IntKind.i64.wrap ((f : Int) - 1) = (f : Int) - 1 := IntWalk.i64_in _ (by omega)
      have v2 : IntKind.i64.wrap ((o : Int) + ((f : Int) - 1)) = ((o - 1 + f : Nat) : Int) := by rw [IntWalk.i64_in _ (by omega)]; omega
      clear hf
      go_wp2_with (go_at_call 64; refine (HC.out _).mono ?_; rintro e w2 ⟨rfl, hb2⟩)
      go_roundw
      case rel => exact ⟨j + 1, o - 1 + f, by omega, by omega, by go_num, by go_num, HR.out, below_chain HB.out HB.out.size hb2⟩
      case measure => simp [intOf]; omega
    · have HR := Lib.hid (show (-1 : Int) = z by rw [← hr.out, show o = o - 1 + 1 by omega, resE_past (by rw [HL.out]; omega)])
      clear hr hb
      go_wp2_with fail
      go_ret
      exact ⟨by rw [← HR.out]; rfl, HB.out⟩
theorem sizeExpr_c (A : Option Addr) (n c : Nat) (w : World) (_hn : n ≤ 1000000000000) :
    Calls Tryd.prog 62 #[.slice A n c] w fun e w' => e = .returned (.int .i64 n) ∧ w = w' := by
  go_enter Tryd.func62, Tryd.ntmps62
  go_wp2
  go_ret
  exact ⟨rfl, rfl⟩
set_option maxHeartbeats 2000000 in
set_option maxRecDepth 100000 in
theorem validExpr_c (A : Option Addr) (n cp : Nat) (c : List (Int × Int)) (q : Bool) (w : World) (h : Rd2 w A n c) (hn : n ≤ 1000000000) (hq : validE c = q) :
    Calls Tryd.prog 51 #[.slice A n cp] w fun e w' => e = .returned (.bool q) ∧ Below w.heap.size w w' := by
  have HL := Lib.hid h.len
  have HQ := Lib.hid (show (inB n 1 40 && c.all okE && decide (endP manyE c 1 = some c.length)) = q by rw [← hq, validE, h.len])
  have H := Lib.hid h; clear h hq
  cases hb1 : inB n 1 40
  · have HF := Lib.hid (show false = q by rw [← HQ.out, hb1]; rfl)
    go_enter Tryd.func51, Tryd.ntmps51
    go_wp2_with (first | (go_at_call 62; refine (sizeExpr_c _ _ _ _ (by omega)).mono ?_; rintro e w' ⟨rfl, rfl⟩) | (go_at_call 53; refine (within_b _ _ _ _ (by assumption) _).mono ?_; rintro e w' ⟨rfl, rfl⟩))
    go_ret
    exact ⟨by rw [← HF.out]; rfl, below_size⟩
  have HF := Lib.hid (show (c.all okE && decide (endP manyE c 1 = some c.length)) = q by rw [← HQ.out, hb1]; rfl)
  have hn1 := inB_t hb1
  clear HQ
  go_enter Tryd.func51, Tryd.ntmps51
  go_wp2_with (first | (go_at_call 62; refine (sizeExpr_c _ _ _ _ (by omega)).mono ?_; rintro e w' ⟨rfl, rfl⟩) | (go_at_call 53; refine (within_b _ _ _ _ (by assumption) _).mono ?_; rintro e w' ⟨rfl, rfl⟩))
  go_loopw [11] (fun iv wr => ∃ k : Nat, k ≤ n ∧ iv = .int .i64 k ∧ Hid (((c.drop k).all okE && decide (endP manyE c 1 = some c.length)) = q) ∧ Below w.heap.size w wr) (fun iv _ => n - (intOf iv).toNat)
  case atStart => exact ⟨0, by omega, rfl, HF.out, below_size⟩
  case round =>
    obtain ⟨k, hk, rfl, hr, hb⟩ := hrel
    have HB := Lib.hid hb
    by_cases hlt : k < n
    · obtain ⟨ad, x, rfl, hab, hx, hc0, hc1⟩ := (H.out.below hb).at_ hlt
      obtain ⟨p, v⟩ := x
      have HS := Lib.hid (show (okE (p, v) && ((c.drop (k + 1)).all okE && decide (endP manyE c 1 = some c.length))) = q by rw [← hr.out, drop_at hx, List.all_cons, Bool.and_assoc])
      simp only at hc0 hc1
      clear hx hb hr
      have HE := Lib.hid (show ∀ o, Below w.heap.size w (wr.alloc o) from fun o => HB.out.alloc HB.out.size o)
      cases hp : inB p 0 5
      · have HG := Lib.hid (show false = q by rw [← HS.out]; simp [okE, hp])
        go_wp2_with (first | (go_at_call 53; refine (within_b _ _ _ _ (by assumption) _).mono ?_; rintro e w' ⟨rfl, rfl⟩) | (go_at_call 52; refine (isWhileVariable_b _ _ (by assumption) _).mono ?_; rintro e w' ⟨rfl, rfl⟩))
        go_ret
        exact ⟨by rw [← HG.out]; rfl, HE.out _⟩
      cases hv : inB v 0 5
      · have HG := Lib.hid (show false = q by rw [← HS.out]; simp [okE, hv])
        go_wp2_with (first | (go_at_call 53; refine (within_b _ _ _ _ (by assumption) _).mono ?_; rintro e w' ⟨rfl, rfl⟩) | (go_at_call 52; refine (isWhileVariable_b _ _ (by assumption) _).mono ?_; rintro e w' ⟨rfl, rfl⟩))
        go_ret
        exact ⟨by rw [← HG.out]; rfl, HE.out _⟩
      by_cases h4 : p = 1
      · subst h4
        have HG := Lib.hid (show ((c.drop (k + 1)).all okE && decide (endP manyE c 1 = some c.length)) = q by rw [← HS.out]; simp [okE, hp, hv])
        go_wp2_with (first | (go_at_call 53; refine (within_b _ _ _ _ (by assumption) _).mono ?_; rintro e w' ⟨rfl, rfl⟩) | (go_at_call 52; refine (isWhileVariable_b _ _ (by assumption) _).mono ?_; rintro e w' ⟨rfl, rfl⟩))
        go_roundw
        case rel => exact ⟨k + 1, by omega, by go_num, HG.out, HE.out _⟩
        case measure => simp [intOf]; omega
      have g4 : (p != 1) = true := by simpa using h4
      by_cases hv0 : v = 0
      · subst hv0
        have HG := Lib.hid (show ((c.drop (k + 1)).all okE && decide (endP manyE c 1 = some c.length)) = q by rw [← HS.out]; simp [okE, hp, hv])
        go_wp2_with (first | (go_at_call 53; refine (within_b _ _ _ _ (by assumption) _).mono ?_; rintro e w' ⟨rfl, rfl⟩) | (go_at_call 52; refine (isWhileVariable_b _ _ (by assumption) _).mono ?_; rintro e w' ⟨rfl, rfl⟩))
        go_roundw
        case rel => exact ⟨k + 1, by omega, by go_num, HG.out, HE.out _⟩
        case measure => simp [intOf]; omega
      · have gv : (v != 0) = true := by simpa using hv0
        have HG := Lib.hid (show false = q by rw [← HS.out]; simp [okE, h4, hv0])
        go_wp2_with (first | (go_at_call 53; refine (within_b _ _ _ _ (by assumption) _).mono ?_; rintro e w' ⟨rfl, rfl⟩) | (go_at_call 52; refine (isWhileVariable_b _ _ (by assumption) _).mono ?_; rintro e w' ⟨rfl, rfl⟩))
        go_ret
        exact ⟨by rw [← HG.out]; rfl, HE.out _⟩
    · have HG := Lib.hid (show decide (endP manyE c 1 = some c.length) = q by rw [← hr.out, List.drop_eq_nil_of_le (by rw [HL.out]; omega)]; rfl)
      clear hr hb
      obtain ⟨z, hz⟩ : ∃ z, resE manyE c 0 1 = z := ⟨_, rfl⟩
      have HZ := Lib.hid hz
      have HD := Lib.hid (show (z == (n : Int)) = q by
        rw [← HG.out, ← hz, resE, List.drop_zero, HL.out]
        cases endP manyE c 1 with
        | none =>
          show ((-1 : Int) == (n : Int)) = decide (none = some n)
          rw [show ((-1 : Int) == (n : Int)) = false by simp]; rfl
        | some p =>
          show (((0 + p : Nat) : Int) == (n : Int)) = decide (some p = some n)
          rw [Nat.zero_add]
          by_cases h : p = n
          · subst h; simp
          · rw [show ((p : Int) == (n : Int)) = false by simp; omega]; simp [h])
      have R := Lib.hid (H.out.below HB.out)
      clear hz
      go_wp2_with (go_at_call 63; refine (termEndExpr_c _ _ _ c 0 z _ R.out hn (by omega) HZ.out).mono ?_; rintro e w2 ⟨rfl, hb2⟩)
      go_ret
      exact ⟨by rw [← HD.out]; rfl, below_chain HB.out HB.out.size hb2⟩
end Go.Proofs.YtkchgjegdmcnaaaDoor
