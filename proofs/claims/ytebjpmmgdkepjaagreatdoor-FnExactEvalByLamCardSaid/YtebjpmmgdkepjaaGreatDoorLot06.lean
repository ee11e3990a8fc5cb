/-
  Parts of the proof, one behind the other: contracts of the functions that the law reaches, and plain laws.
-/
import Derived.Lib.AppendZerosOnto
import Derived.Lib.AppendZeros
import Derived.Test.YtebjpmmgdkepjaaGreatDoorLot03
import Derived.Test.YtebjpmmgdkepjaaGreatDoorLot04
import Derived.Test.YtebjpmmgdkepjaaGreatDoorLot05
/-
  Contracts of chapter 12: combinator terms of the reference: valid ones, ends, forms.
-/
namespace Go.Proofs.YtebjpmmgdkepjaaGreatDoor
open Go.RowKit

set_option maxHeartbeats 2000000 in
set_option maxRecDepth 100000 in
theorem l12Comb_c (A : Option Addr) (n cp : Nat) (c : List (Int × Int)) (q : Bool) (w : World) (h : Rd2 w A n c) (hn : n ≤ 1000000000) (hq : validC c = q) :
    Calls Tryz.prog 175 #[.slice A n cp] w fun e w' => e = .returned (.bool q) ∧ Below w.heap.size w w' := by
  have HL := Lib.hid h.len
  have HQ := Lib.hid (show (inB n 1 400 && needC c 1) = q by rw [← hq, validC_need, h.len])
  have H := Lib.hid h; clear h hq
  cases hb1 : inB n 1 400
  · have HF := Lib.hid (show false = q by rw [← HQ.out, hb1]; rfl)
    have hn1 := inB_f hb1
    by_cases h1 : (n : Int) < 1
    · have k1 : decide ((n : Int) < 1) = true := by simpa using h1
      go_enter Tryz.func175, Tryz.ntmps175
      go_wp2_with fail
      go_ret
      exact ⟨by rw [← HF.out]; rfl, below_size⟩
    · have k1 : decide ((n : Int) < 1) = false := by simpa using h1
      have k2 : decide ((400 : Int) < (n : Int)) = true := by rw [decide_eq_true_eq]; omega
      go_enter Tryz.func175, Tryz.ntmps175
      go_wp2_with fail
      go_ret
      exact ⟨by rw [← HF.out]; rfl, below_size⟩
  have hn1 := inB_t hb1
  have HF := Lib.hid (show needC c 1 = q by rw [← HQ.out, hb1]; rfl)
  have k1 : decide ((n : Int) < 1) = false := by rw [decide_eq_false_iff_not]; omega
  have k2 : decide ((400 : Int) < (n : Int)) = false := by rw [decide_eq_false_iff_not]; omega
  clear HQ
  go_enter Tryz.func175, Tryz.ntmps175
  go_wp2_with fail
  clear k1 k2
  go_loopw [3, 4] (fun ov iv wr => ∃ k o : Nat, k ≤ n ∧ o ≤ k + 1 ∧ iv = .int .i64 k ∧ ov = .int .i64 o ∧ Hid (needC (c.drop k) o = q) ∧ Below w.heap.size w wr) (fun _ iv _ => n - (intOf iv).toNat)
  case atStart => exact ⟨0, 1, by omega, by omega, rfl, rfl, HF.out, below_size⟩
  case round =>
    obtain ⟨k, o, hk, ho, rfl, rfl, hr, hb⟩ := hrel
    have HB := Lib.hid hb
    by_cases hlt : k < n
    · obtain ⟨ad, x, rfl, hab, hx, hc0, hc1⟩ := (H.out.below hb).at_ hlt
      obtain ⟨p, v⟩ := x
      have HS := Lib.hid (show (o != 0 && okC (p, v) && needC (c.drop (k + 1)) (o - 1 + manyC p)) = q by rw [← hr.out, drop_at hx]; rfl)
      clear hx hb hr
      by_cases ho0 : o = 0
      · subst ho0
        have HG := Lib.hid (show false = q by rw [← HS.out]; rfl)
        go_wp2_with fail
        go_ret
        exact ⟨by rw [← HG.out]; rfl, HB.out⟩
      have g0 : ((o : Int) == 0) = false := by simp; omega
      have HS' := Lib.hid (show (okC (p, v) && needC (c.drop (k + 1)) (o - 1 + manyC p)) = q by have h := HS.out; rw [show (o != 0) = true by simpa using ho0, Bool.true_and] at h; exact h)
      clear HS
      cases hp : inB p 0 4
      · have HG := Lib.hid (show false = q by rw [← HS'.out]; simp [okC, hp])
        go_wp2_with (go_at_call 75; refine (l00In_b _ _ _ _ (by assumption) _).mono ?_; rintro e w' ⟨rfl, rfl⟩)
        go_ret
        exact ⟨by rw [← HG.out]; rfl, HB.out⟩
      by_cases h4 : p = 4
      · subst h4
        cases hv : inB v 0 399
        · have HG := Lib.hid (show false = q by rw [← HS'.out]; simp [okC, hv])
          go_wp2_with (go_at_call 75; refine (l00In_b _ _ _ _ (by assumption) _).mono ?_; rintro e w' ⟨rfl, rfl⟩)
          go_ret
          exact ⟨by rw [← HG.out]; rfl, HB.out⟩
        · have HG := Lib.hid (show needC (c.drop (k + 1)) (o - 1) = q by rw [← HS'.out]; simp [okC, hp, hv, manyC])
          go_wp2_with (go_at_call 75; refine (l00In_b _ _ _ _ (by assumption) _).mono ?_; rintro e w' ⟨rfl, rfl⟩)
          go_roundw
          case rel => exact ⟨k + 1, o - 1, by omega, by omega, by go_num, by go_num, HG.out, HB.out⟩
          case measure => simp [intOf]; omega
      have g4 : (p == 4) = false := by simpa using h4
      have g4' : (p != 4) = true := by simpa using h4
      by_cases hv : v = 0
      · subst hv
        have HG := Lib.hid (show needC (c.drop (k + 1)) (o - 1 + manyC p) = q by rw [← HS'.out]; simp [okC, hp, show inB 0 0 399 = true from rfl])
        by_cases h0 : p = 0
        · subst h0
          have HG' := Lib.hid (show needC (c.drop (k + 1)) (o + 1) = q by rw [← HG.out, show o - 1 + manyC 0 = o + 1 by simp [manyC]; omega])
          go_wp2_with (go_at_call 75; refine (l00In_b _ _ _ _ (by assumption) _).mono ?_; rintro e w' ⟨rfl, rfl⟩)
          go_roundw
          case rel => exact ⟨k + 1, o + 1, by omega, by omega, by go_num, by go_num, HG'.out, HB.out⟩
          case measure => simp [intOf]; omega
        · have g00 : (p == 0) = false := by simpa using h0
          have HG' := Lib.hid (show needC (c.drop (k + 1)) (o - 1) = q by rw [← HG.out]; simp [manyC, h0])
          go_wp2_with (go_at_call 75; refine (l00In_b _ _ _ _ (by assumption) _).mono ?_; rintro e w' ⟨rfl, rfl⟩)
          go_roundw
          case rel => exact ⟨k + 1, o - 1, by omega, by omega, by go_num, by go_num, HG'.out, HB.out⟩
          case measure => simp [intOf]; omega
      · have gv : (v == 0) = false := by simpa using hv
        have gv' : (v != 0) = true := by simpa using hv
        have HG := Lib.hid (show false = q by rw [← HS'.out]; simp [okC, h4, hv])
        go_wp2_with (go_at_call 75; refine (l00In_b _ _ _ _ (by assumption) _).mono ?_; rintro e w' ⟨rfl, rfl⟩)
        go_ret
        exact ⟨by rw [← HG.out]; rfl, HB.out⟩
    · have HG := Lib.hid (show (o == 0) = q by rw [← hr.out, List.drop_eq_nil_of_le (by rw [HL.out]; omega)]; rfl)
      clear hb hr
      by_cases h0 : o = 0
      · subst h0
        go_wp2_with fail
        go_ret
        exact ⟨by rw [← HG.out]; rfl, HB.out⟩
      · have e1 : ((o : Int) == 0) = false := by simp; omega
        have HG' := Lib.hid (show false = q by rw [← HG.out]; simpa using h0)
        go_wp2_with fail
        go_ret
        exact ⟨by rw [← HG'.out]; rfl, HB.out⟩
set_option maxHeartbeats 1000000 in
theorem l12CombEnd_c (A : Option Addr) (n cp : Nat) (c : List (Int × Int)) (k p z : Nat) (w : World) (h : Rd2 w A n c) (hn : n ≤ 1000000000) (hp : endP manyC (c.drop k) 1 = some p) (hz : k + p = z) :
    Calls Tryz.prog 132 #[.slice A n cp, .int .i64 k] w fun e w' => e = .returned (.int .i64 z) ∧ w = w' := by
  have HZ := Lib.hid hz
  clear hz
  have HL := Lib.hid h.len
  have HP := Lib.hid hp
  have H := Lib.hid h; clear h hp
  have hkn : k ≤ n := by
    rcases Nat.lt_or_ge n k with h | h
    · have := HP.out; rw [List.drop_eq_nil_of_le (by rw [HL.out]; omega)] at this; cases this
    · exact h
  go_enter Tryz.func132, Tryz.ntmps132
  go_wp2_with fail
  go_loop [1, 5] (fun kv ov => ∃ j o r : Nat, j ≤ n ∧ o ≤ j + 1 ∧ kv = .int .i64 j ∧ ov = .int .i64 o ∧ Hid (endP manyC (c.drop j) o = some r) ∧ Hid (j + r = z)) (fun kv _ => n - (intOf kv).toNat)
  case atStart => exact ⟨k, 1, p, hkn, by omega, rfl, rfl, HP.out, HZ.out⟩
  case round =>
    obtain ⟨j, o, r, hj, ho, rfl, rfl, hr, hs⟩ := hrel
    by_cases ho0 : o = 0
    · subst ho0
      have HR := Lib.hid (show j = z by have := hr.out; rw [endP_zero] at this; injection this with this; have := hs.out; omega)
      clear hr hs
      go_wp2_with fail
      go_ret
      exact ⟨by rw [HR.out]; rfl, rfl⟩
    have g0 : decide ((0 : Int) < (o : Int)) = true := by rw [decide_eq_true_eq]; omega
    have hlt : j < n := by
      rcases Nat.lt_or_ge j n with h | h
      · exact h
      · have := hr.out
        rw [List.drop_eq_nil_of_le (by rw [HL.out]; omega), show o = o - 1 + 1 by omega] at this; cases this
    obtain ⟨ad, x, rfl, hab, hx, hc0, hc1⟩ := H.out.at_ hlt
    obtain ⟨t, v⟩ := x
    obtain ⟨r', hr', HS⟩ : ∃ r', endP manyC (c.drop (j + 1)) (o - 1 + manyC t) = some r' ∧ Hid (j + 1 + r' = z) := by
      have h1 := hr.out
      rw [drop_at hx, show o = o - 1 + 1 by omega, endP_cons] at h1
      obtain ⟨r', h2, h3⟩ := Option.map_eq_some_iff.1 h1
      refine ⟨r', by simpa using h2, ?_⟩
      have := hs.out; unfold Hid; omega
    have HR := Lib.hid hr'
    clear hr hs hx hr'
    by_cases h0 : t = 0
    · subst h0
      have HG := Lib.hid (show endP manyC (c.drop (j + 1)) (o + 1) = some r' by rw [← HR.out, show o - 1 + manyC 0 = o + 1 by simp [manyC]; omega])
      go_wp2_with fail
      go_round
      case rel => exact ⟨j + 1, o + 1, r', by omega, by omega, by go_num, by go_num, HG.out, HS.out⟩
      case measure => simp [intOf]; omega
    · have g00 : (t == 0) = false := by simpa using h0
      have HG := Lib.hid (show endP manyC (c.drop (j + 1)) (o - 1) = some r' by rw [← HR.out]; simp [manyC, h0])
      go_wp2_with fail
      go_round
      case rel => exact ⟨j + 1, o - 1, r', by omega, by omega, by go_num, by go_num, HG.out, HS.out⟩
      case measure => simp [intOf]; omega

set_option maxHeartbeats 2000000 in
set_option maxRecDepth 100000 in
theorem l12Form_c (A : Option Addr) (n cp : Nat) (c : List (Int × Int)) (k m : Nat) (w : World) (h : Rd2 w A n c) (hn : n ≤ 1000000000) (hv : endP manyC c 1 = some c.length) (hk : k < n) (hm : formC (c.drop k) = m) :
    Calls Tryz.prog 174 #[.slice A n cp, .int .i64 k] w fun e w' => e = .returned (.int .i64 m) ∧ w = w' := by
  have HL := Lib.hid h.len
  obtain ⟨ld, hld⟩ : ∃ ld, leadC (c.drop k) = ld := ⟨_, rfl⟩
  have hll : k + ld < n := by have := (form_args hv (by rw [h.len]; exact hk)).1; rw [hld, h.len] at this; omega
  obtain ⟨_, y, rfl, hab, hy, hyc, _⟩ := h.at_ hll
  have HA := Lib.hid (show ∀ i x, i < ld → c[k + i]? = some x → x.1 = 0 from fun i x hi hx => leadC_app (l := c.drop k) (i := i) (by rw [List.getElem?_drop]; exact hx) (by rw [hld]; exact hi))
  have hy0 : y.1 ≠ 0 := leadC_stop (l := c.drop k) (by rw [hld, List.getElem?_drop]; exact hy)
  have HM := Lib.hid (show (if y.1 = 3 ∧ ld = 1 ∨ y.1 = 2 ∧ ld = 2 ∨ y.1 = 1 ∧ ld = 3 then ld else 0) = m by rw [← hm, formC, hld, List.getElem?_drop, hy])
  have H := Lib.hid h
  obtain ⟨t, v⟩ := y
  simp only at hyc hy0 HM
  have g0 : (t == 0) = false := by simpa using hy0
  clear h hm hld hy hv
  go_enter Tryz.func174, Tryz.ntmps174
  go_wp2_with fail
  go_loop [1, 5] (fun kv nv => ∃ i : Nat, i ≤ ld ∧ kv = .int .i64 ((k + i : Nat) : Int) ∧ nv = .int .i64 i) (fun _ nv => ld - (intOf nv).toNat)
  case atStart => exact ⟨0, by omega, by rw [Nat.add_zero], rfl⟩
  case round =>
    obtain ⟨i, hi, rfl, rfl⟩ := hrel
    by_cases hlt : i < ld
    · obtain ⟨_, x, e, hab', hx, hc0, hc1⟩ := H.out.at_ (k := k + i) (by omega)
      injection e with e; subst e
      have hx0 := HA.out i x hlt hx
      obtain ⟨x0, x1⟩ := x
      simp only at hx0; subst hx0
      clear hx
      go_wp2_with fail
      go_round
      case rel => exact ⟨i + 1, by omega, by go_num, by go_num⟩
      case measure => simp [intOf]; omega
    · obtain rfl : i = ld := by omega
      by_cases h3 : t = 3
      · subst h3
        by_cases h1 : i = 1
        · subst h1
          go_wp2_with fail
          go_ret
          exact ⟨by rw [← HM.out]; rfl, rfl⟩
        · have e1 : ((i : Int) == 1) = false := by simp; omega
          have HG := Lib.hid (show 0 = m by rw [← HM.out, if_neg (by omega)])
          go_wp2_with fail
          go_ret
          exact ⟨by rw [← HG.out]; rfl, rfl⟩
      have e3 : (t == 3) = false := by simpa using h3
      by_cases h2 : t = 2
      · subst h2
        by_cases h1 : i = 2
        · subst h1
          go_wp2_with fail
          go_ret
          exact ⟨by rw [← HM.out]; rfl, rfl⟩
        · have e1 : ((i : Int) == 2) = false := by simp; omega
          have HG := Lib.hid (show 0 = m by rw [← HM.out, if_neg (by omega)])
          go_wp2_with fail
          go_ret
          exact ⟨by rw [← HG.out]; rfl, rfl⟩
      have e2 : (t == 2) = false := by simpa using h2
      by_cases h1 : t = 1
      · subst h1
        by_cases h1 : i = 3
        · subst h1
          go_wp2_with fail
          go_ret
          exact ⟨by rw [← HM.out]; rfl, rfl⟩
        · have e1 : ((i : Int) == 3) = false := by simp; omega
          have HG := Lib.hid (show 0 = m by rw [← HM.out, if_neg (by omega)])
          go_wp2_with fail
          go_ret
          exact ⟨by rw [← HG.out]; rfl, rfl⟩
      have e1 : (t == 1) = false := by simpa using h1
      have HG := Lib.hid (show 0 = m by rw [← HM.out, if_neg (by omega)])
      go_wp2_with fail
      go_ret
      exact ⟨by rw [← HG.out]; rfl, rfl⟩
def atI : Option Nat → Int
  | none => -1
  | some k => k
set_option maxHeartbeats 1000000 in
theorem l12CombAt_c (A : Option Addr) (n cp : Nat) (c : List (Int × Int)) (R : Option Nat) (w : World) (h : Rd2 w A n c) (hn : n ≤ 1000000000) (hv : endP manyC c 1 = some c.length) (hR : firstC c n 0 = R) :
    Calls Tryz.prog 133 #[.slice A n cp] w fun e w' => e = .returned (.int .i64 (atI R)) ∧ w = w' := by
  have H := Lib.hid h; have HR := Lib.hid hR; have HV := Lib.hid hv; clear h hR hv
  go_enter Tryz.func133, Tryz.ntmps133
  go_wp2_with fail
  go_loop [3] (fun iv => ∃ k : Nat, k ≤ n ∧ iv = .int .i64 k ∧ Hid (firstC c (n - k) k = R)) (fun iv => n - (intOf iv).toNat)
  case atStart => exact ⟨0, by omega, rfl, HR.out⟩
  case round =>
    obtain ⟨k, hk, rfl, hr⟩ := hrel
    by_cases hlt : k < n
    · obtain ⟨m, hm⟩ : ∃ m, formC (c.drop k) = m := ⟨_, rfl⟩
      have HS := Lib.hid (show (if 0 < m then some k else firstC c (n - (k + 1)) (k + 1)) = R by rw [← hr.out, show n - k = n - (k + 1) + 1 by omega, firstC, hm])
      have HM := Lib.hid hm
      clear hm hr
      by_cases h0 : 0 < m
      · have HG := Lib.hid (show some k = R by rw [← HS.out, if_pos h0])
        have g0 : decide ((0 : Int) < (m : Int)) = true := by rw [decide_eq_true_eq]; omega
        go_wp2_with (go_at_call 174; refine (l12Form_c _ _ _ c k m _ H.out hn HV.out hlt HM.out).mono ?_; rintro e w' ⟨rfl, rfl⟩)
        go_ret
        exact ⟨by rw [← HG.out]; rfl, rfl⟩
      · obtain rfl : m = 0 := by omega
        have HG := Lib.hid (show firstC c (n - (k + 1)) (k + 1) = R by rw [← HS.out, if_neg h0])
        go_wp2_with (go_at_call 174; refine (l12Form_c _ _ _ c k 0 _ H.out hn HV.out hlt HM.out).mono ?_; rintro e w' ⟨rfl, rfl⟩)
        go_round
        case rel => exact ⟨k + 1, by omega, by go_num, HG.out⟩
        case measure => simp [intOf]; omega
    · have HG := Lib.hid (show none = R by rw [← hr.out, show n - k = 0 by omega]; rfl)
      clear hr
      go_wp2_with fail
      go_ret
      exact ⟨by rw [← HG.out]; rfl, rfl⟩
theorem one_pairs (xs : List (Int × Int)) : ∀ u ∈ xs.flatMap enc2, u.oneCell' = true := by
  intro u hu
  obtain ⟨y, _, hy⟩ := List.mem_flatMap.1 hu
  rcases List.mem_cons.1 hy with rfl | hy
  · rfl
  · rw [List.mem_singleton] at hy; subst hy; rfl
theorem flat_take {l : List (Int × Int)} {k : Nat} : (l.flatMap enc2).take (k * 2) = (l.take k).flatMap enc2 := by
  induction l generalizing k with
  | nil => simp
  | cons x l ih =>
    cases k with
    | zero => simp
    | succ k => rw [List.flatMap_cons, List.take_succ_cons, List.flatMap_cons, ← ih, Nat.succ_mul]; rfl
theorem flat_drop {l : List (Int × Int)} {k : Nat} : (l.flatMap enc2).drop (k * 2) = (l.drop k).flatMap enc2 := by
  induction l generalizing k with
  | nil => simp
  | cons x l ih =>
    cases k with
    | zero => simp
    | succ k => rw [List.flatMap_cons, List.drop_succ_cons, ← ih, Nat.succ_mul]; rfl
/-- a part of a list of pairs -/
theorem Rd2.part {w : World} {ad : Addr} {n : Nat} {c : List (Int × Int)} (h : Rd2 w (some ad) n c) (k p : Nat) (hkp : k + p ≤ n) : Rd2 w (some (ad.add (k * 2))) p ((c.drop k).take p) := by
  have hl := h.len
  refine ⟨?_, fun hp => ?_⟩
  · rw [flatX_len enc2 2 enc2_len, List.length_take, List.length_drop, hl]; omega
  · obtain ⟨_, e, hb, hc⟩ := h.2 (by omega)
    injection e with e; subst e
    refine ⟨_, rfl, by rw [block_add]; exact hb, fun j v hj => ?_⟩
    rw [← flat_take, ← flat_drop, List.getElem?_take] at hj
    split at hj
    · rw [List.getElem?_drop] at hj
      rw [add_add]; exact hc _ v hj
    · cases hj
theorem Rd2.upto {w : World} {A : Option Addr} {n : Nat} {c : List (Int × Int)} (h : Rd2 w A n c) (k : Nat) (hk : k ≤ n) : Rd2 w A k (c.take k) := by
  have hl := h.len
  refine ⟨?_, fun hp => ?_⟩
  · rw [flatX_len enc2 2 enc2_len, List.length_take, hl]; omega
  · obtain ⟨ad, rfl, hb, hc⟩ := h.2 (by omega)
    refine ⟨_, rfl, hb, fun j v hj => ?_⟩
    rw [← flat_take, List.getElem?_take] at hj
    split at hj
    · exact hc _ v hj
    · cases hj
theorem Rd2.none0 {w : World} {A : Option Addr} : Rd2 w A 0 [] := ⟨rfl, fun h => absurd h (by omega)⟩
/-- append of a list of pairs to a slice of the call's own -/
theorem info_pComb : (Tryz.prog.info? 100).map (fun i => (i.zero, i.size, i.bytes)) = some (some (.agg #[.int .i64 0, .int .i64 0]), 2, 16) := by kernel_rfl
theorem wp_appComb {ops : Array Oper} {rest : List Oper} {o : Oper} {a : Act} {w : World} {Q : Exit → Act → World → Prop} (hgd : o.guard = none) (s x : Operand)
    (ho : o.op = .call { callee := .builtin .append, args := #[s, x], argTypes := #[37, 37] })
    (B : Nat) (A : Option Addr) (n c : Nat) (vs : List Value) (hs : a.eval s = .slice A n c) (hown : Own w B 100 2 A n c vs)
    (X : Option Addr) (m c' : Nat) (xs : List (Int × Int)) (hx : a.eval x = .slice X m c') (hX : Rd2 w X m xs) (hlen : n + m ≤ 1000000000) (hB : B ≤ w.heap.size)
    (h : ∀ A' cap w', Own w' B 100 2 A' (n + m) cap (vs ++ xs.flatMap enc2) → Below B w w' → (∀ b, b < w.heap.size → (∀ ad', A = some ad' → ad'.block ≠ b) → w'.heap[b]? = w.heap[b]?) → (A' = A ∨ A' = some ⟨w.heap.size, 0, none⟩) → w.heap.size ≤ w'.heap.size →
      wpList Tryz.prog ops Q rest (a.put o.dst (.slice A' (n + m) cap)) w') : wpList Tryz.prog ops Q (o :: rest) a w := by
  by_cases h0 : 0 < m
  · obtain ⟨hl, hc⟩ := hX
    obtain ⟨ad, rfl, hab, hcs⟩ := hc (by omega)
    refine wp_app hgd s x 37 100 (.agg #[.int .i64 0, .int .i64 0]) 2 16 ho Tryz.underlying37 info_pComb rfl (by omega) B A n c vs hs hown ad m c' (xs.flatMap enc2) hx h0 hl hcs (one_pairs xs) (by omega) (by omega) hB ?_
    intro g' cap w2 own2 hb2 hk2 hg2 hz2
    exact h _ cap w2 own2 hb2 hk2 (hg2.elim (fun e => .inl e.symm) (fun e => .inr (by rw [e]))) hz2
  · obtain rfl : m = 0 := by omega
    have hws : xs = [] := List.length_eq_zero_iff.1 hX.len
    subst hws
    refine wp_app0 hgd s x 37 100 (.agg #[.int .i64 0, .int .i64 0]) 2 16 ho Tryz.underlying37 info_pComb A n c hs hown.cap X c' hx ?_
    exact h A c w (by simpa using hown) ⟨rfl, rfl, rfl, Nat.le_refl _, fun _ _ => rfl⟩ (fun _ _ _ => rfl) (.inl rfl) (Nat.le_refl _)
/-- append of a list of pairs to a slice of the call's own -/
theorem info_pLam : (Tryz.prog.info? 62).map (fun i => (i.zero, i.size, i.bytes)) = some (some (.agg #[.int .i64 0, .int .i64 0]), 2, 16) := by kernel_rfl
theorem wp_appLam {ops : Array Oper} {rest : List Oper} {o : Oper} {a : Act} {w : World} {Q : Exit → Act → World → Prop} (hgd : o.guard = none) (s x : Operand)
    (ho : o.op = .call { callee := .builtin .append, args := #[s, x], argTypes := #[25, 25] })
    (B : Nat) (A : Option Addr) (n c : Nat) (vs : List Value) (hs : a.eval s = .slice A n c) (hown : Own w B 62 2 A n c vs)
    (X : Option Addr) (m c' : Nat) (xs : List (Int × Int)) (hx : a.eval x = .slice X m c') (hX : Rd2 w X m xs) (hlen : n + m ≤ 1000000000) (hB : B ≤ w.heap.size)
    (h : ∀ A' cap w', Own w' B 62 2 A' (n + m) cap (vs ++ xs.flatMap enc2) → Below B w w' → (∀ b, b < w.heap.size → (∀ ad', A = some ad' → ad'.block ≠ b) → w'.heap[b]? = w.heap[b]?) → (A' = A ∨ A' = some ⟨w.heap.size, 0, none⟩) → w.heap.size ≤ w'.heap.size →
      wpList Tryz.prog ops Q rest (a.put o.dst (.slice A' (n + m) cap)) w') : wpList Tryz.prog ops Q (o :: rest) a w := by
  by_cases h0 : 0 < m
  · obtain ⟨hl, hc⟩ := hX
    obtain ⟨ad, rfl, hab, hcs⟩ := hc (by omega)
    refine wp_app hgd s x 25 62 (.agg #[.int .i64 0, .int .i64 0]) 2 16 ho Tryz.underlying25 info_pLam rfl (by omega) B A n c vs hs hown ad m c' (xs.flatMap enc2) hx h0 hl hcs (one_pairs xs) (by omega) (by omega) hB ?_
    intro g' cap w2 own2 hb2 hk2 hg2 hz2
    exact h _ cap w2 own2 hb2 hk2 (hg2.elim (fun e => .inl e.symm) (fun e => .inr (by rw [e]))) hz2
  · obtain rfl : m = 0 := by omega
    have hws : xs = [] := List.length_eq_zero_iff.1 hX.len
    subst hws
    refine wp_app0 hgd s x 25 62 (.agg #[.int .i64 0, .int .i64 0]) 2 16 ho Tryz.underlying25 info_pLam A n c hs hown.cap X c' hx ?_
    exact h A c w (by simpa using hown) ⟨rfl, rfl, rfl, Nat.le_refl _, fun _ _ => rfl⟩ (fun _ _ _ => rfl) (.inl rfl) (Nat.le_refl _)
end Go.Proofs.YtebjpmmgdkepjaaGreatDoor
/-
  slices.Grow of nil and slices.Concat: lists one after the other.
-/
namespace Go.Proofs.YtebjpmmgdkepjaaGreatDoor
open Go.RowKit

/-- a slice with its cells -/
structure ItV where
  A : Option Addr
  n : Nat
  c : Nat
  vs : List Value
def hdV (t : ItV) : Value := .slice t.A t.n t.c
def sumV : List ItV → Nat
  | [] => 0
  | t :: l => t.n + sumV l
theorem sumV_app : ∀ a b : List ItV, sumV (a ++ b) = sumV a + sumV b
  | [], b => by simp [sumV]
  | t :: a, b => by simp only [List.cons_append, sumV, sumV_app a b]; omega
theorem sumV_take {its : List ItV} {k : Nat} {t : ItV} (h : its[k]? = some t) : sumV (its.take (k + 1)) = sumV (its.take k) + t.n := by rw [take_at h, sumV_app]; simp [sumV]
theorem sumV_le {its : List ItV} {k : Nat} : sumV (its.take k) ≤ sumV its := by
  have := sumV_app (its.take k) (its.drop k)
  rw [List.take_append_drop] at this; omega
/-- the slices of a list, each with k cells an element -/
structure RdV (w : World) (k : Nat) (A : Option Addr) (m : Nat) (its : List ItV) : Prop where
  head : Rd w A m (its.map hdV)
  each : ∀ t ∈ its, Rd w t.A (t.n * k) t.vs
  one : ∀ t ∈ its, ∀ u ∈ t.vs, u.oneCell' = true
theorem RdV.below {w w' : World} {k : Nat} {A : Option Addr} {m : Nat} {its : List ItV} (h : RdV w k A m its) (hb : Below w.heap.size w w') : RdV w' k A m its := ⟨h.head.below hb, fun t ht => (h.each t ht).below hb, h.one⟩
theorem RdV.len {w : World} {k : Nat} {A : Option Addr} {m : Nat} {its : List ItV} (h : RdV w k A m its) : its.length = m := by have := h.head.1; simpa using this
theorem RdV.at_ {w : World} {k : Nat} {A : Option Addr} {m : Nat} {its : List ItV} (h : RdV w k A m its) {j : Nat} (hj : j < m) : ∃ ad t, A = some ad ∧ its[j]? = some t ∧ w.cell? (ad.add j) = some (.slice t.A t.n t.c) ∧ Rd w t.A (t.n * k) t.vs ∧ ∀ u ∈ t.vs, u.oneCell' = true := by
  have hl := h.len
  have ht : its[j]? = some its[j] := List.getElem?_eq_getElem (by omega)
  obtain ⟨ad, v, e, hb, hv, hc⟩ := h.head.at_ hj
  rw [List.getElem?_map, ht] at hv
  injection hv with hv; subst hv
  exact ⟨ad, _, e, ht, hc, h.each _ (List.getElem_mem (by omega)), h.one _ (List.getElem_mem (by omega))⟩
/-- a slice of the call's own with given cells -/
def CatOut (k N : Nat) (vs : List Value) (w : World) (e : Ending) (w' : World) : Prop := ∃ A c, e = .returned (.slice A N c) ∧ Wr w' w.heap.size w'.heap.size A (N * k) vs ∧ N ≤ c ∧ Below w.heap.size w w'
theorem info_catLam : (Tryz.prog.info? 62).map (fun i => (i.zero, i.size, i.bytes)) = some (some (.agg #[.int .i64 0, .int .i64 0]), 2, 16) := by kernel_rfl
set_option maxHeartbeats 1000000 in
set_option maxRecDepth 100000 in
theorem growNilLam_c (n : Nat) (w : World) (hn : n ≤ 100000000) : Calls Tryz.prog 142 #[.slice none 0 0, .int .i64 n] w fun e w' => ∃ A c, e = .returned (.slice A 0 c) ∧ Own w' w.heap.size 62 2 A 0 c [] ∧ Below w.heap.size w w' := by
  by_cases h0 : n = 0
  · subst h0
    go_enter Tryz.func142, Tryz.ntmps142
    go_wp2_with fail
    go_ret
    exact ⟨none, 0, rfl, Own.nil, below_size⟩
  · obtain ⟨i, hi0, hi1⟩ := Option.map_eq_some_iff.1 info_catLam
    simp only [Prod.mk.injEq] at hi1
    obtain ⟨e1, e2, e3⟩ := hi1
    obtain ⟨G, hG⟩ : ∃ G, G = grownCap w (0 + n) 0 62 := ⟨_, rfl⟩
    have hrz : ∀ ty, (Builtin.append_ #[25, 3] ty #[.slice none 0 0, .int .i64 (n : Int)]).run Tryz.prog w = .ok (.slice (some ⟨w.heap.size, 0, none⟩) n G) (w.drew.alloc (.cells (Builtin.zeroCells (.agg #[.int .i64 0, .int .i64 0] : Value).cells n ++ Builtin.zeroCells (.agg #[.int .i64 0, .int .i64 0] : Value).cells (G - n)) 62)) := fun ty => by
      have h := Lib.run_append_grow_zeros (P := Tryz.prog) w 25 3 ty 62 i (.agg #[.int .i64 0, .int .i64 0]) .i64 .i64 Tryz.underlying25 Tryz.underlying3 hi0 e1 none 0 0 [] (run_firstCells_none w.drew i.size 0 0 0) n (by omega) (by rw [e2]; omega) (by omega) (by omega) (by rw [e3]; omega) (by rw [e3]; exact growslice_fits (by omega) (by omega))
      rw [← hG, Nat.zero_add] at h
      simpa using h
    have hGn : 0 + n ≤ G := by rw [hG]; exact grownCap_ge w _ _ _
    have hG63 : G ≤ maxLen := by rw [hG]; exact grownCap_le_maxLen w _ _ _ (by unfold maxLen; omega)
    have HG := Lib.hid hG63
    have hgm : G ≤ 9223372036854775807 := by have := hG63; unfold maxLen at this; omega
    clear hG e1 e2 e3 hG63
    go_enter Tryz.func142, Tryz.ntmps142
    go_wp2_with (at_builtin; refine Lib.wpList_append_run _ rfl _ _ _ _ rfl _ _ rfl rfl _ _ (hrz _) ?_)
    go_ret
    refine ⟨some ⟨w.heap.size, 0, none⟩, G, rfl, ?_, below_drew below_size |>.alloc (Nat.le_refl _) _⟩
    refine ⟨by simp, .inr ⟨w.heap.size, G, _, rfl, Nat.le_refl _, heap_alloc_new w.drew _, by omega, HG.out, ?_, by simp⟩⟩
    rw [← Array.length_toList]; simp [Builtin.zeroCells]; omega
set_option maxHeartbeats 2000000 in
set_option maxRecDepth 100000 in
theorem concatLam_c (A : Option Addr) (m c : Nat) (its : List ItV) (w : World) (h : RdV w 2 A m its) (hm : m ≤ 1000000) (hs : sumV its ≤ 100000000) :
    Calls Tryz.prog 103 #[.slice A m c] w (CatOut 2 (sumV its) (its.flatMap ItV.vs) w) := by
  have HL := Lib.hid h.len
  have H := Lib.hid h; clear h
  obtain ⟨N, hN⟩ : ∃ N, sumV its = N := ⟨_, rfl⟩
  rw [hN]
  have HN := Lib.hid hN
  have hNs : N ≤ 100000000 := by omega
  clear hN hs
  go_enter Tryz.func103, Tryz.ntmps103
  go_wp2_with fail
  go_loop [3, 11] (fun sv iv => ∃ j q : Nat, j ≤ m ∧ iv = .int .i64 j ∧ sv = .int .i64 q ∧ q ≤ N ∧ Hid (q = sumV (its.take j))) (fun _ iv => m - (intOf iv).toNat)
  case atStart => exact ⟨0, 0, by omega, rfl, rfl, by omega, by simp [Hid, sumV]⟩
  case round =>
    obtain ⟨j, q, hj, rfl, rfl, hq, hr⟩ := hrel
    by_cases hlt : j < m
    · obtain ⟨ad, t, rfl, ht, hc, _, _⟩ := H.out.at_ hlt
      have HS := Lib.hid (sumV_take ht)
      have HT := Lib.hid (sumV_le (its := its) (k := j + 1))
      have hqt : q + t.n ≤ N := by have h1 := hr.out; have h2 := HS.out; have h3 := HT.out; have h4 := HN.out; omega
      have HR := Lib.hid (show q + t.n = sumV (its.take (j + 1)) by have h1 := hr.out; have h2 := HS.out; omega)
      clear ht hr
      go_wp2_with fail
      go_round
      case rel => exact ⟨j + 1, q + t.n, by omega, by go_num, by go_num, hqt, HR.out⟩
      case measure => simp [intOf]; omega
    · have HQ := Lib.hid (show q = N by rw [hr.out, ← HN.out, List.take_of_length_le (by rw [HL.out]; omega)])
      clear hr
      go_wp2_with fail
      refine (growNilLam_c q _ (by omega)).mono ?_
      rintro e w1 ⟨O, oc, rfl, hO, hb⟩
      have O1 := Lib.hid hO; have B1 := Lib.hid hb
      have hz1 := hb.size
      clear hO hb
      go_wp2_with fail
      go_loopw [6, 27] (fun sv iv wr => ∃ (j p : Nat) (O : Option Addr) (oc : Nat), j ≤ m ∧ iv = .int .i64 j ∧ sv = .slice O p oc ∧ p ≤ N ∧ Hid (p = sumV (its.take j)) ∧ Hid (Own wr w.heap.size 62 2 O p oc ((its.take j).flatMap ItV.vs)) ∧ Below w.heap.size w wr) (fun _ iv _ => m - (intOf iv).toNat)
      case atStart => exact ⟨0, 0, O, oc, by omega, rfl, rfl, by omega, by simp [Hid, sumV], by unfold Hid; simpa using O1.out, B1.out⟩
      case round =>
        obtain ⟨j, p, O, oc, hj, rfl, rfl, hp, hr, hO, hb⟩ := hrel
        have HB := Lib.hid hb
        have hwz := hb.size
        by_cases hlt : j < m
        · obtain ⟨ad, t, rfl, ht, hc, hrd, hone⟩ := (H.out.below hb).at_ hlt
          have HS := Lib.hid (sumV_take ht)
          have HT := Lib.hid (sumV_le (its := its) (k := j + 1))
          have hqt : p + t.n ≤ N := by have h1 := hr.out; have h2 := HS.out; have h3 := HT.out; have h4 := HN.out; omega
          have HR := Lib.hid (show p + t.n = sumV (its.take (j + 1)) by have h1 := hr.out; have h2 := HS.out; omega)
          have HF := Lib.hid (show (its.take (j + 1)).flatMap ItV.vs = (its.take j).flatMap ItV.vs ++ t.vs by rw [take_at ht]; simp)
          have ONE := Lib.hid hone; have RD := Lib.hid hrd
          have hcap := hO.out.cap
          clear ht hr hb hrd hone
          by_cases h0 : t.n = 0
          · have HV := Lib.hid (show t.vs = [] from List.length_eq_zero_iff.1 (by have := RD.out.1; rw [h0] at this; omega))
            obtain ⟨tA, tn, tc, tv⟩ := t
            simp only at h0 hc HS hqt HR HF HV
            subst h0
            go_wp2_with (at_builtin; refine wp_app0 (by rfl) _ _ 25 62 (.agg #[.int .i64 0, .int .i64 0]) 2 16 (by rfl) Tryz.underlying25 info_catLam O p oc (by rfl) hcap tA tc (by rfl) ?_)
            go_roundw
            case rel => exact ⟨j + 1, p, O, oc, by omega, by go_num, rfl, hp, HR.out, by unfold Hid; rw [HF.out, HV.out, List.append_nil]; exact hO.out, HB.out⟩
            case measure => simp [intOf]; omega
          · obtain ⟨ta, hta, htb, htc⟩ := RD.out.2 (by omega)
            have HTC := Lib.hid htc; have HTL := Lib.hid RD.out.1
            obtain ⟨tA, tn, tc, tv⟩ := t
            simp only at h0 hc HS hqt HR HF hta htb HTC HTL ONE
            subst hta
            clear htc RD
            go_wp2_with (at_builtin; refine wp_app (by rfl) _ _ 25 62 (.agg #[.int .i64 0, .int .i64 0]) 2 16 (by rfl) Tryz.underlying25 info_catLam rfl (by omega) w.heap.size O p oc ((its.take j).flatMap ItV.vs) (by rfl) (by exact hO.out) ta tn tc tv (by rfl) (by omega) HTL.out (by exact HTC.out) ONE.out (by omega) (by omega) hwz ?_; intro g' cap w3 own3 hb3 hk3 hg3 hz3)
            have O3 := Lib.hid own3
            have B3 := Lib.hid (HB.out.trans hb3)
            clear own3 hb3 hk3 hg3 hz3
            go_wp2_with fail
            go_roundw
            case rel => exact ⟨j + 1, p + tn, some ⟨g', 0, none⟩, cap, by omega, by go_num, rfl, hqt, HR.out, by unfold Hid; rw [HF.out]; exact O3.out, B3.out⟩
            case measure => simp [intOf]; omega
        · have e1 := Lib.hid (show its.take j = its from List.take_of_length_le (by rw [HL.out]; omega))
          have HP := Lib.hid (show p = N by rw [hr.out, e1.out, HN.out])
          clear hb hr
          go_wp2_with fail
          go_ret
          have h1 := hO.out
          rw [e1.out] at h1
          have hp2 := HP.out
          subst hp2
          exact ⟨O, oc, rfl, h1.wrK, h1.cap, HB.out⟩
theorem info_catComb : (Tryz.prog.info? 100).map (fun i => (i.zero, i.size, i.bytes)) = some (some (.agg #[.int .i64 0, .int .i64 0]), 2, 16) := by kernel_rfl
set_option maxHeartbeats 1000000 in
set_option maxRecDepth 100000 in
theorem growNilComb_c (n : Nat) (w : World) (hn : n ≤ 100000000) : Calls Tryz.prog 188 #[.slice none 0 0, .int .i64 n] w fun e w' => ∃ A c, e = .returned (.slice A 0 c) ∧ Own w' w.heap.size 100 2 A 0 c [] ∧ Below w.heap.size w w' := by
  by_cases h0 : n = 0
  · subst h0
    go_enter Tryz.func188, Tryz.ntmps188
    go_wp2_with fail
    go_ret
    exact ⟨none, 0, rfl, Own.nil, below_size⟩
  · obtain ⟨i, hi0, hi1⟩ := Option.map_eq_some_iff.1 info_catComb
    simp only [Prod.mk.injEq] at hi1
    obtain ⟨e1, e2, e3⟩ := hi1
    obtain ⟨G, hG⟩ : ∃ G, G = grownCap w (0 + n) 0 100 := ⟨_, rfl⟩
    have hrz : ∀ ty, (Builtin.append_ #[37, 3] ty #[.slice none 0 0, .int .i64 (n : Int)]).run Tryz.prog w = .ok (.slice (some ⟨w.heap.size, 0, none⟩) n G) (w.drew.alloc (.cells (Builtin.zeroCells (.agg #[.int .i64 0, .int .i64 0] : Value).cells n ++ Builtin.zeroCells (.agg #[.int .i64 0, .int .i64 0] : Value).cells (G - n)) 100)) := fun ty => by
      have h := Lib.run_append_grow_zeros (P := Tryz.prog) w 37 3 ty 100 i (.agg #[.int .i64 0, .int .i64 0]) .i64 .i64 Tryz.underlying37 Tryz.underlying3 hi0 e1 none 0 0 [] (run_firstCells_none w.drew i.size 0 0 0) n (by omega) (by rw [e2]; omega) (by omega) (by omega) (by rw [e3]; omega) (by rw [e3]; exact growslice_fits (by omega) (by omega))
      rw [← hG, Nat.zero_add] at h
      simpa using h
    have hGn : 0 + n ≤ G := by rw [hG]; exact grownCap_ge w _ _ _
    have hG63 : G ≤ maxLen := by rw [hG]; exact grownCap_le_maxLen w _ _ _ (by unfold maxLen; omega)
    have HG := Lib.hid hG63
    have hgm : G ≤ 9223372036854775807 := by have := hG63; unfold maxLen at this; omega
    clear hG e1 e2 e3 hG63
    go_enter Tryz.func188, Tryz.ntmps188
    go_wp2_with (at_builtin; refine Lib.wpList_append_run _ rfl _ _ _ _ rfl _ _ rfl rfl _ _ (hrz _) ?_)
    go_ret
    refine ⟨some ⟨w.heap.size, 0, none⟩, G, rfl, ?_, below_drew below_size |>.alloc (Nat.le_refl _) _⟩
    refine ⟨by simp, .inr ⟨w.heap.size, G, _, rfl, Nat.le_refl _, heap_alloc_new w.drew _, by omega, HG.out, ?_, by simp⟩⟩
    rw [← Array.length_toList]; simp [Builtin.zeroCells]; omega
set_option maxHeartbeats 2000000 in
set_option maxRecDepth 100000 in
theorem concatComb_c (A : Option Addr) (m c : Nat) (its : List ItV) (w : World) (h : RdV w 2 A m its) (hm : m ≤ 1000000) (hs : sumV its ≤ 100000000) :
    Calls Tryz.prog 146 #[.slice A m c] w (CatOut 2 (sumV its) (its.flatMap ItV.vs) w) := by
  have HL := Lib.hid h.len
  have H := Lib.hid h; clear h
  obtain ⟨N, hN⟩ : ∃ N, sumV its = N := ⟨_, rfl⟩
  rw [hN]
  have HN := Lib.hid hN
  have hNs : N ≤ 100000000 := by omega
  clear hN hs
  go_enter Tryz.func146, Tryz.ntmps146
  go_wp2_with fail
  go_loop [3, 11] (fun sv iv => ∃ j q : Nat, j ≤ m ∧ iv = .int .i64 j ∧ sv = .int .i64 q ∧ q ≤ N ∧ Hid (q = sumV (its.take j))) (fun _ iv => m - (intOf iv).toNat)
  case atStart => exact ⟨0, 0, by omega, rfl, rfl, by omega, by simp [Hid, sumV]⟩
  case round =>
    obtain ⟨j, q, hj, rfl, rfl, hq, hr⟩ := hrel
    by_cases hlt : j < m
    · obtain ⟨ad, t, rfl, ht, hc, _, _⟩ := H.out.at_ hlt
      have HS := Lib.hid (sumV_take ht)
      have HT := Lib.hid (sumV_le (its := its) (k := j + 1))
      have hqt : q + t.n ≤ N := by have h1 := hr.out; have h2 := HS.out; have h3 := HT.out; have h4 := HN.out; omega
      have HR := Lib.hid (show q + t.n = sumV (its.take (j + 1)) by have h1 := hr.out; have h2 := HS.out; omega)
      clear ht hr
      go_wp2_with fail
      go_round
      case rel => exact ⟨j + 1, q + t.n, by omega, by go_num, by go_num, hqt, HR.out⟩
      case measure => simp [intOf]; omega
    · have HQ := Lib.hid (show q = N by rw [hr.out, ← HN.out, List.take_of_length_le (by rw [HL.out]; omega)])
      clear hr
      go_wp2_with fail
      refine (growNilComb_c q _ (by omega)).mono ?_
      rintro e w1 ⟨O, oc, rfl, hO, hb⟩
      have O1 := Lib.hid hO; have B1 := Lib.hid hb
      have hz1 := hb.size
      clear hO hb
      go_wp2_with fail
      go_loopw [6, 27] (fun sv iv wr => ∃ (j p : Nat) (O : Option Addr) (oc : Nat), j ≤ m ∧ iv = .int .i64 j ∧ sv = .slice O p oc ∧ p ≤ N ∧ Hid (p = sumV (its.take j)) ∧ Hid (Own wr w.heap.size 100 2 O p oc ((its.take j).flatMap ItV.vs)) ∧ Below w.heap.size w wr) (fun _ iv _ => m - (intOf iv).toNat)
      case atStart => exact ⟨0, 0, O, oc, by omega, rfl, rfl, by omega, by simp [Hid, sumV], by unfold Hid; simpa using O1.out, B1.out⟩
      case round =>
        obtain ⟨j, p, O, oc, hj, rfl, rfl, hp, hr, hO, hb⟩ := hrel
        have HB := Lib.hid hb
        have hwz := hb.size
        by_cases hlt : j < m
        · obtain ⟨ad, t, rfl, ht, hc, hrd, hone⟩ := (H.out.below hb).at_ hlt
          have HS := Lib.hid (sumV_take ht)
          have HT := Lib.hid (sumV_le (its := its) (k := j + 1))
          have hqt : p + t.n ≤ N := by have h1 := hr.out; have h2 := HS.out; have h3 := HT.out; have h4 := HN.out; omega
          have HR := Lib.hid (show p + t.n = sumV (its.take (j + 1)) by have h1 := hr.out; have h2 := HS.out; omega)
          have HF := Lib.hid (show (its.take (j + 1)).flatMap ItV.vs = (its.take j).flatMap ItV.vs ++ t.vs by rw [take_at ht]; simp)
          have ONE := Lib.hid hone; have RD := Lib.hid hrd
          have hcap := hO.out.cap
          clear ht hr hb hrd hone
          by_cases h0 : t.n = 0
          · have HV := Lib.hid (show t.vs = [] from List.length_eq_zero_iff.1 (by have := RD.out.1; rw [h0] at this; omega))
            obtain ⟨tA, tn, tc, tv⟩ := t
            simp only at h0 hc HS hqt HR HF HV
            subst h0
            go_wp2_with (at_builtin; refine wp_app0 (by rfl) _ _ 37 100 (.agg #[.int .i64 0, .int .i64 0]) 2 16 (by rfl) Tryz.underlying37 info_catComb O p oc (by rfl) hcap tA tc (by rfl) ?_)
            go_roundw
            case rel => exact ⟨j + 1, p, O, oc, by omega, by go_num, rfl, hp, HR.out, by unfold Hid; rw [HF.out, HV.out, List.append_nil]; exact hO.out, HB.out⟩
            case measure => simp [intOf]; omega
          · obtain ⟨ta, hta, htb, htc⟩ := RD.out.2 (by omega)
            have HTC := Lib.hid htc; have HTL := Lib.hid RD.out.1
            obtain ⟨tA, tn, tc, tv⟩ := t
            simp only at h0 hc HS hqt HR HF hta htb HTC HTL ONE
            subst hta
            clear htc RD
            go_wp2_with (at_builtin; refine wp_app (by rfl) _ _ 37 100 (.agg #[.int .i64 0, .int .i64 0]) 2 16 (by rfl) Tryz.underlying37 info_catComb rfl (by omega) w.heap.size O p oc ((its.take j).flatMap ItV.vs) (by rfl) (by exact hO.out) ta tn tc tv (by rfl) (by omega) HTL.out (by exact HTC.out) ONE.out (by omega) (by omega) hwz ?_; intro g' cap w3 own3 hb3 hk3 hg3 hz3)
            have O3 := Lib.hid own3
            have B3 := Lib.hid (HB.out.trans hb3)
            clear own3 hb3 hk3 hg3 hz3
            go_wp2_with fail
            go_roundw
            case rel => exact ⟨j + 1, p + tn, some ⟨g', 0, none⟩, cap, by omega, by go_num, rfl, hqt, HR.out, by unfold Hid; rw [HF.out]; exact O3.out, B3.out⟩
            case measure => simp [intOf]; omega
        · have e1 := Lib.hid (show its.take j = its from List.take_of_length_le (by rw [HL.out]; omega))
          have HP := Lib.hid (show p = N by rw [hr.out, e1.out, HN.out])
          clear hb hr
          go_wp2_with fail
          go_ret
          have h1 := hO.out
          rw [e1.out] at h1
          have hp2 := HP.out
          subst hp2
          exact ⟨O, oc, rfl, h1.wrK, h1.cap, HB.out⟩
end Go.Proofs.YtebjpmmgdkepjaaGreatDoor
/-
  A slice of the call's own whose elements hold slices of the call's own: how it grows. Nothing of the program.
-/
namespace Go.Proofs.YtebjpmmgdkepjaaGreatDoor
open Go.RowKit

/-- the head row (grown by append) and the rows of its elements, all in blocks of the call's own, all apart -/
structure OwnS (w : World) (B : Nat) (e : TypeId) (size : Nat) (A : Option Addr) (n c : Nat) (vs : List Value) (ss : List Seg) : Prop where
  own : Own w B e size A n c vs
  wrs : WrS w B w.heap.size ss
  ne : ∀ s ∈ ss, ∀ ad a, A = some ad → s.A = some a → 0 < s.n → a.block ≠ ad.block

section
variable {w w' : World} {B : Nat} {e : TypeId} {size n c : Nat} {A : Option Addr} {vs : List Value} {ss : List Seg}
theorem Wr.move {lo hi hi' n : Nat} {A : Option Addr} {vs : List Value} (h : Wr w lo hi A n vs) (hk : ∀ ad, 0 < n → A = some ad → w'.heap[ad.block]? = w.heap[ad.block]?) (hs : w.heap.size ≤ w'.heap.size) (hh : hi ≤ hi') : Wr w' lo hi' A n vs :=
  ⟨h.1, fun hn => by
    obtain ⟨ad, e, hB, hh, hlt, hc⟩ := h.2 hn
    have hb := hk ad hn e
    exact ⟨ad, e, hB, by omega, Nat.lt_of_lt_of_le hlt hs, fun j u hu => ⟨(World.cell?_of_block (a := ad.add j) (by rw [block_add]; exact hb)).trans (hc j u hu).1, (World.frozen?_of_block (a := ad.add j) (by rw [block_add]; exact hb)).trans (hc j u hu).2⟩⟩⟩
theorem OwnS.nil (h : Own w B e size A n c vs) : OwnS w B e size A n c vs [] := ⟨h, WrS.nil, fun s hs => by cases hs⟩
theorem OwnS.move (h : OwnS w B e size A n c vs ss) (hk : ∀ b, B ≤ b → b < w.heap.size → w'.heap[b]? = w.heap[b]?) (hs : w.heap.size ≤ w'.heap.size) : OwnS w' B e size A n c vs ss :=
  ⟨h.own.move fun ad ha => hk _ (h.own.block ha).1 (h.own.block ha).2.1,
   ⟨fun s hs' => (h.wrs.each s hs').move (fun ad hn e => by obtain ⟨ad', e', h1, _, h3, _⟩ := (h.wrs.each s hs').2 hn; rw [e] at e'; injection e' with e'; subst e'; exact hk _ h1 h3) hs hs, h.wrs.apart⟩, h.ne⟩
theorem OwnS.keep (h : OwnS w B e size A n c vs ss) (hb : Below w.heap.size w w') : OwnS w' B e size A n c vs ss := h.move (fun b _ hlt => hb.block b hlt) hb.size
theorem OwnS.alloc (h : OwnS w B e size A n c vs ss) (o : Obj) : OwnS (w.alloc o) B e size A n c vs ss := h.keep (below_size.alloc (Nat.le_refl _) o)
theorem OwnS.drew (h : OwnS w B e size A n c vs ss) : OwnS w.drew B e size A n c vs ss := ⟨h.own, ⟨h.wrs.each, h.wrs.apart⟩, h.ne⟩
theorem OwnS.drewN (h : OwnS w B e size A n c vs ss) (k : Nat) : OwnS (w.drewN k) B e size A n c vs ss := h.keep (below_drewN below_size k)
/-- all rows together -/
theorem OwnS.wrS (h : OwnS w B e size A n c vs ss) : WrS w B w.heap.size (⟨A, n * size, vs⟩ :: ss) :=
  ⟨fun s hs => by
    rcases List.mem_cons.1 hs with rfl | hs
    · exact h.own.wrK
    · exact h.wrs.each s hs, List.pairwise_cons.2 ⟨fun s hs a b ha hb _ hn => (h.ne s hs a b ha hb hn).symm, h.wrs.apart⟩⟩
/-- an element more: its row s is new since the world w0 -/
theorem OwnS.push {w0 w1 : World} {g' cap : Nat} {vs' : List Value} {s : Seg} {n' : Nat} (h : OwnS w0 B e size A n c vs ss) (hB : B ≤ w0.heap.size) (hb : Below w0.heap.size w0 w1) (hs : Wr w1 w0.heap.size w1.heap.size s.A s.n s.vs)
    (hown : Own w' B e size (some ⟨g', 0, none⟩) n' cap vs') (hk : ∀ b, b < w1.heap.size → (∀ ad', A = some ad' → ad'.block ≠ b) → w'.heap[b]? = w1.heap[b]?) (hg : A = some ⟨g', 0, none⟩ ∨ g' = w1.heap.size) (hz : w1.heap.size ≤ w'.heap.size) :
    OwnS w' B e size (some ⟨g', 0, none⟩) n' cap vs' (ss ++ [s]) := by
  have h1 := h.keep hb
  have hz1 := hb.size
  have hold : ∀ t ∈ ss, ∀ a, t.A = some a → 0 < t.n → a.block < w0.heap.size := fun t ht a ha hn => by
    obtain ⟨a', e', _, _, h3, _⟩ := (h.wrs.each t ht).2 hn
    rw [ha] at e'; injection e' with e'; subst e'; exact h3
  have hnew : ∀ a, s.A = some a → 0 < s.n → w0.heap.size ≤ a.block ∧ a.block < w1.heap.size := fun a ha hn => by
    obtain ⟨a', e', h2, _, h3, _⟩ := hs.2 hn
    rw [ha] at e'; injection e' with e'; subst e'; exact ⟨h2, h3⟩
  refine ⟨hown, ⟨fun t ht => ?_, ?_⟩, fun t ht ad a had ha hn => ?_⟩
  · rcases List.mem_append.1 ht with ht | ht
    · exact (h1.wrs.each t ht).move (fun a hn ha => hk _ (Nat.lt_of_lt_of_le (hold t ht a ha hn) hz1) fun ad' hA => (h.ne t ht ad' a hA ha hn).symm) hz hz
    · rw [List.mem_singleton] at ht; subst ht
      exact (hs.wider hB (Nat.le_refl _)).move (fun a hn ha => hk _ (hnew a ha hn).2 fun ad' hA => by have := (h.own.block hA).2.1; have := (hnew a ha hn).1; omega) hz hz
  · refine List.pairwise_append.2 ⟨h.wrs.apart, List.pairwise_singleton _ _, fun t ht u hu a b ha hb' hn hm => ?_⟩
    rw [List.mem_singleton] at hu; subst hu
    have := hold t ht a ha hn; have := (hnew b hb' hm).1; omega
  · injection had with had; subst had
    rcases List.mem_append.1 ht with ht | ht
    · rcases hg with hg | hg
      · exact h.ne t ht _ a hg ha hn
      · have := hold t ht a ha hn; show a.block ≠ g'; omega
    · rw [List.mem_singleton] at ht; subst ht
      rcases hg with hg | hg
      · have := (h.own.block hg).2.1; have := (hnew a ha hn).1; show a.block ≠ g'; simp at *; omega
      · have := (hnew a ha hn).2; show a.block ≠ g'; omega
end
end Go.Proofs.YtebjpmmgdkepjaaGreatDoor
