/-
  Parts of the proof, one behind the other: contracts of the functions that the law reaches, and plain laws.
-/
import Derived.Test.YtebjpmmgdkepjaaGreatDoorLot04
/-
  Contracts of chapter 12: combinator terms of the reference: valid ones, ends, forms.
-/
namespace Go.Proofs.YtebjpmmgdkepjaaGreatDoor
open Go.RowKit

set_option maxHeartbeats 2000000 in
set_option maxRecDepth 100000 in
theorem l12Comb_c (A : Option Addr) (n cp : Nat) (c : List (Int × Int)) (q : Bool) (w : World) (h : Rd2 w A n c) (hn : n ≤ 1000000000) (hq : validC c = q) :
    Calls Tryz.prog 175 #[.slice A n cp] w fun e w' => e = .returned (.bool q) ∧ Below w.heap.size w w' := by
  have HL := Lib.hid h.len
  have HQ := Lib.hid (show (inB n 1 400 && needC c 1) = q by rw [← hq, validC_need, h.len])
  have H := Lib.hid h; clear h hq
  cases hb1 : inB n 1 400
  · have HF := Lib.hid (show false = q by rw [← HQ.out, hb1]; rfl)
    have hn1 := inB_f hb1
    by_cases h1 : (n : Int) < 1
    · have k1 : decide ((n : Int) < 1) = true := by simpa using h1
      go_enter Tryz.func175, Tryz.ntmps175
      go_wp2_with fail
      go_ret
      exact ⟨by rw [← HF.out]; rfl, below_size⟩
    · have k1 : decide ((n : Int) < 1) = false := by simpa using h1
      have k2 : decide ((400 : Int) < (n : Int)) = true := by rw [decide_eq_true_eq]; omega
      go_enter Tryz.func175, Tryz.ntmps175
      go_wp2_with fail
      go_ret
      exact ⟨by rw [← HF.out]; rfl, below_size⟩
  have hn1 := inB_t hb1
  have HF := Lib.hid (show needC c 1 = q by rw [← HQ.out, hb1]; rfl)
  have k1 : decide ((n : Int) < 1) = false := by rw [decide_eq_false_iff_not]; omega
  have k2 : decide ((400 : Int) < (n : Int)) = false := by rw [decide_eq_false_iff_not]; omega
  clear HQ
  go_enter Tryz.func175, Tryz.ntmps175
  go_wp2_with fail
  clear k1 k2
  go_loopw [3, 4] (fun ov iv wr => ∃ k o : Nat, k ≤ n ∧ o ≤ k + 1 ∧ iv = .int .i64 k ∧ ov = .int .i64 o ∧ Hid (needC (c.drop k) o = q) ∧ Below w.heap.size w wr) (fun _ iv _ => n - (intOf iv).toNat)
  case atStart => exact ⟨0, 1, by omega, by omega, rfl, rfl, HF.out, below_size⟩
  case round =>
    obtain ⟨k, o, hk, ho, rfl, rfl, hr, hb⟩ := hrel
    have HB := Lib.hid hb
    by_cases hlt : k < n
    · obtain ⟨ad, x, rfl, hab, hx, hc0, hc1⟩ := (H.out.below hb).at_ hlt
      obtain ⟨p, v⟩ := x
      have HS := Lib.hid (show (o != 0 && okC (p, v) && needC (c.drop (k + 1)) (o - 1 + manyC p)) = q by rw [← hr.out, drop_at hx]; rfl)
      clear hx hb hr
      by_cases ho0 : o = 0
      · subst ho0
        have HG := Lib.hid (show false = q by rw [← HS.out]; rfl)
        go_wp2_with fail
        go_ret
        exact ⟨by rw [← HG.out]; rfl, HB.out⟩
      have g0 : ((o : Int) == 0) = false := by simp; omega
      have HS' := Lib.hid (show (okC (p, v) && needC (c.drop (k + 1)) (o - 1 + manyC p)) = q by have h := HS.out; rw [show (o != 0) = true by simpa using ho0, Bool.true_and] at h; exact h)
      clear HS
      cases hp : inB p 0 4
      · have HG := Lib.hid (show false = q by rw [← HS'.out]; simp [okC, hp])
        go_wp2_with (go_at_call 75; refine (l00In_b _ _ _ _ (by assumption) _).mono ?_; rintro e w' ⟨rfl, rfl⟩)
        go_ret
        exact ⟨by rw [← HG.out]; rfl, HB.out⟩
      by_cases h4 : p = 4
      · subst h4
        cases hv : inB v 0 399
        · have HG := Lib.hid (show false = q by rw [← HS'.out]; simp [okC, hv])
          go_wp2_with (go_at_call 75; refine (l00In_b _ _ _ _ (by assumption) _).mono ?_; rintro e w' ⟨rfl, rfl⟩)
          go_ret
          exact ⟨by rw [← HG.out]; rfl, HB.out⟩
        · have HG := Lib.hid (show needC (c.drop (k + 1)) (o - 1) = q by rw [← HS'.out]; simp [okC, hp, hv, manyC])
          go_wp2_with (go_at_call 75; refine (l00In_b _ _ _ _ (by assumption) _).mono ?_; rintro e w' ⟨rfl, rfl⟩)
          go_roundw
          case rel => exact ⟨k + 1, o - 1, by omega, by omega, by go_num, by go_num, HG.out, HB.out⟩
          case measure => simp [intOf]; omega
      have g4 : (p == 4) = false := by simpa using h4
      have g4' : (p != 4) = true := by simpa using h4
      by_cases hv : v = 0
      · subst hv
        have HG := Lib.hid (show needC (c.drop (k + 1)) (o - 1 + manyC p) = q by rw [← HS'.out]; simp [okC, hp, show inB 0 0 399 = true from rfl])
        by_cases h0 : p = 0
        · subst h0
          have HG' := Lib.hid (show needC (c.drop (k + 1)) (o + 1) = q by rw [← HG.out, show o - 1 + manyC 0 = o + 1 by simp [manyC]; omega])
          go_wp2_with (go_at_call 75; refine (l00In_b _ _ _ _ (by assumption) _).mono ?_; rintro e w' ⟨rfl, rfl⟩)
          go_roundw
          case rel => exact ⟨k + 1, o + 1, by omega, by omega, by go_num, by go_num, HG'.out, HB.out⟩
          case measure => simp [intOf]; omega
        · have g00 : (p == 0) = false := by simpa using h0
          have HG' := Lib.hid (show needC (c.drop (k + 1)) (o - 1) = q by rw [← HG.out]; simp [manyC, h0])
          go_wp2_with (go_at_call 75; refine (l00In_b _ _ _ _ (by assumption) _).mono ?_; rintro e w' ⟨rfl, rfl⟩)
          go_roundw
          case rel => exact ⟨k + 1, o - 1, by omega, by omega, by go_num, by go_num, HG'.out, HB.out⟩
          case measure => simp [intOf]; omega
      · have gv : (v == 0) = false := by simpa using hv
        have gv' : (v != 0) = true := by simpa using hv
        have HG := Lib.hid (show false = q by rw [← HS'.out]; simp [okC, h4, hv])
        go_wp2_with (go_at_call 75; refine (l00In_b _ _ _ _ (by assumption) _).mono ?_; rintro e w' ⟨rfl, rfl⟩)
        go_ret
        exact ⟨by rw [← HG.out]; rfl, HB.out⟩
    · have HG := Lib.hid (show (o == 0) = q by rw [← hr.out, List.drop_eq_nil_of_le (by rw [HL.out]; omega)]; rfl)
      clear hb hr
      by_cases h0 : o = 0
      · subst h0
        go_wp2_with fail
        go_ret
        exact ⟨by rw [← HG.out]; rfl, HB.out⟩
      · have e1 : ((o : Int) == 0) = false := by simp; omega
        have HG' := Lib.hid (show false = q by rw [← HG.out]; simpa using h0)
        go_wp2_with fail
        go_ret
        exact ⟨by rw [← HG'.out]; rfl, HB.out⟩
set_option maxHeartbeats 1000000 in
theorem l12CombEnd_c (A : Option Addr) (n cp : Nat) (c : List (Int × Int)) (k p z : Nat) (w : World) (h : Rd2 w A n c) (hn : n ≤ 1000000000) (hp : endP manyC (c.drop k) 1 = some p) (hz : k + p = z) :
    Calls Tryz.prog 132 #[.slice A n cp, .int .i64 k] w fun e w' => e = .returned (.int .i64 z) ∧ w = w' := by
  have HZ := Lib.hid hz
  clear hz
  have HL := Lib.hid h.len
  have HP := Lib.hid hp
  have H := Lib.hid h; clear h hp
  have hkn : k ≤ n := by
    rcases Nat.lt_or_ge n k with h | h
    · have := HP.out; rw [List.drop_eq_nil_of_le (by rw [HL.out]; omega)] at this; cases this
    · exact h
  go_enter Tryz.func132, Tryz.ntmps132
  go_wp2_with fail
  go_loop [1, 5] (fun kv ov => ∃ j o r : Nat, j ≤ n ∧ o ≤ j + 1 ∧ kv = .int .i64 j ∧ ov = .int .i64 o ∧ Hid (endP manyC (c.drop j) o = some r) ∧ Hid (j + r = z)) (fun kv _ => n - (intOf kv).toNat)
  case atStart => exact ⟨k, 1, p, hkn, by omega, rfl, rfl, HP.out, HZ.out⟩
  case round =>
    obtain ⟨j, o, r, hj, ho, rfl, rfl, hr, hs⟩ := hrel
    by_cases ho0 : o = 0
    · subst ho0
      have HR := Lib.hid (show j = z by have := hr.out; rw [endP_zero] at this; injection this with this; have := hs.out; omega)
      clear hr hs
      go_wp2_with fail
      go_ret
      exact ⟨by rw [HR.out]; rfl, rfl⟩
    have g0 : decide ((0 : Int) < (o : Int)) = true := by rw [decide_eq_true_eq]; omega
    have hlt : j < n := by
      rcases Nat.lt_or_ge j n with h | h
      · exact h
      · have := hr.out
        rw [List.drop_eq_nil_of_le (by rw [HL.out]; omega), show o = o - 1 + 1 by omega] at this; cases this
    obtain ⟨ad, x, rfl, hab, hx, hc0, hc1⟩ := H.out.at_ hlt
    obtain ⟨t, v⟩ := x
    obtain ⟨r', hr', HS⟩ : ∃ r', endP manyC (c.drop (j + 1)) (o - 1 + manyC t) = some r' ∧ Hid (j + 1 + r' = z) := by
      have h1 := hr.out
      rw [drop_at hx, show o = o - 1 + 1 by omega, endP_cons] at h1
      obtain ⟨r', h2, h3⟩ := Option.map_eq_some_iff.1 h1
      refine ⟨r', by simpa using h2, ?_⟩
      have := hs.out; unfold Hid; omega
    have HR := Lib.hid hr'
    clear hr hs hx hr'
    by_cases h0 : t = 0
    · subst h0
      have HG := Lib.hid (show endP manyC (c.drop (j + 1)) (o + 1) = some r' by rw [← HR.out, show o - 1 + manyC 0 = o + 1 by simp [manyC]; omega])
      go_wp2_with fail
      go_round
      case rel => exact ⟨j + 1, o + 1, r', by omega, by omega, by go_num, by go_num, HG.out, HS.out⟩
      case measure => simp [intOf]; omega
    · have g00 : (t == 0) = false := by simpa using h0
      have HG := Lib.hid (show endP manyC (c.drop (j + 1)) (o - 1) = some r' by rw [← HR.out]; simp [manyC, h0])
      go_wp2_with fail
      go_round
      case rel => exact ⟨j + 1, o - 1, r', by omega, by omega, by go_num, by go_num, HG.out, HS.out⟩
      case measure => simp [intOf]; omega

set_option maxHeartbeats 2000000 in
set_option maxRecDepth 100000 in
theorem l12Form_c (A : Option Addr) (n cp : Nat) (c : List (Int × Int)) (k m : Nat) (w : World) (h : Rd2 w A n c) (hn : n ≤ 1000000000) (hv : endP manyC c 1 = some c.length) (hk : k < n) (hm : formC (c.drop k) = m) :
    Calls Tryz.prog 174 #[.slice A n cp, .int .i64 k] w fun e w' => e = .returned (.int .i64 m) ∧ w = w' := by
  have HL := Lib.hid h.len
  obtain ⟨ld, hld⟩ : ∃ ld, leadC (c.drop k) = ld := ⟨_, rfl⟩
  have hll : k + ld < n := by have := (form_args hv (by rw [h.len]; exact hk)).1; rw [hld, h.len] at this; omega
  obtain ⟨_, y, rfl, hab, hy, hyc, _⟩ := h.at_ hll
  have HA := Lib.hid (show ∀ i x, i < ld → c[k + i]? = some x → x.1 = 0 from fun i x hi hx => leadC_app (l := c.drop k) (i := i) (by rw [List.getElem?_drop]; exact hx) (by rw [hld]; exact hi))
  have hy0 : y.1 ≠ 0 := leadC_stop (l := c.drop k) (by rw [hld, List.getElem?_drop]; exact hy)
  have HM := Lib.hid (show (if y.1 = 3 ∧ ld = 1 ∨ y.1 = 2 ∧ ld = 2 ∨ y.1 = 1 ∧ ld = 3 then ld else 0) = m by rw [← hm, formC, hld, List.getElem?_drop, hy])
  have H := Lib.hid h
  obtain ⟨t, v⟩ := y
  simp only at hyc hy0 HM
  have g0 : (t == 0) = false := by simpa using hy0
  clear h hm hld hy hv
  go_enter Tryz.func174, Tryz.ntmps174
  go_wp2_with fail
  go_loop [1, 5] (fun kv nv => ∃ i : Nat, i ≤ ld ∧ kv = .int .i64 ((k + i : Nat) : Int) ∧ nv = .int .i64 i) (fun _ nv => ld - (intOf nv).toNat)
  case atStart => exact ⟨0, by omega, by rw [Nat.add_zero], rfl⟩
  case round =>
    obtain ⟨i, hi, rfl, rfl⟩ := hrel
    by_cases hlt : i < ld
    · obtain ⟨_, x, e, hab', hx, hc0, hc1⟩ := H.out.at_ (k := k + i) (by omega)
      injection e with e; subst e
      have hx0 := HA.out i x hlt hx
      obtain ⟨x0, x1⟩ := x
      simp only at hx0; subst hx0
      clear hx
      go_wp2_with fail
      go_round
      case rel => exact ⟨i + 1, by omega, by go_num, by go_num⟩
      case measure => simp [intOf]; omega
    · obtain rfl : i = ld := by omega
      by_cases h3 : t = 3
      · subst h3
        by_cases h1 : i = 1
        · subst h1
          go_wp2_with fail
          go_ret
          exact ⟨by rw [← HM.out]; rfl, rfl⟩
        · have e1 : ((i : Int) == 1) = false := by simp; omega
          have HG := Lib.hid (show 0 = m by rw [← HM.out, if_neg (by omega)])
          go_wp2_with fail
          go_ret
          exact ⟨by rw [← HG.out]; rfl, rfl⟩
      have e3 : (t == 3) = false := by simpa using h3
      by_cases h2 : t = 2
      · subst h2
        by_cases h1 : i = 2
        · subst h1
          go_wp2_with fail
          go_ret
          exact ⟨by rw [← HM.out]; rfl, rfl⟩
        · have e1 : ((i : Int) == 2) = false := by simp; omega
          have HG := Lib.hid (show 0 = m by rw [← HM.out, if_neg (by omega)])
          go_wp2_with fail
          go_ret
          exact ⟨by rw [← HG.out]; rfl, rfl⟩
      have e2 : (t == 2) = false := by simpa using h2
      by_cases h1 : t = 1
      · subst h1
        by_cases h1 : i = 3
        · subst h1
          go_wp2_with fail
          go_ret
          exact ⟨by rw [← HM.out]; rfl, rfl⟩
        · have e1 : ((i : Int) == 3) = false := by simp; omega
          have HG := Lib.hid (show 0 = m by rw [← HM.out, if_neg (by omega)])
          go_wp2_with fail
          go_ret
          exact ⟨by rw [← HG.out]; rfl, rfl⟩
      have e1 : (t == 1) = false := by simpa using h1
      have HG := Lib.hid (show 0 = m by rw [← HM.out, if_neg (by omega)])
      go_wp2_with fail
      go_ret
      exact ⟨by rw [← HG.out]; rfl, rfl⟩
def atI : Option Nat → Int
  | none => -1
  | some k => k
set_option maxHeartbeats 1000000 in
theorem l12CombAt_c (A : Option Addr) (n cp : Nat) (c : List (Int × Int)) (R : Option Nat) (w : World) (h : Rd2 w A n c) (hn : n ≤ 1000000000) (hv : endP manyC c 1 = some c.length) (hR : firstC c n 0 = R) :
    Calls Tryz.prog 133 #[.slice A n cp] w fun e w' => e = .returned (.int .i64 (atI R)) ∧ w = w' := by
  have H := Lib.hid h; have HR := Lib.hid hR; have HV := Lib.hid hv; clear h hR hv
  go_enter Tryz.func133, Tryz.ntmps133
  go_wp2_with fail
  go_loop [3] (fun iv => ∃ k : Nat, k ≤ n ∧ iv = .int .i64 k ∧ Hid (firstC c (n - k) k = R)) (fun iv => n - (intOf iv).toNat)
  case atStart => exact ⟨0, by omega, rfl, HR.out⟩
  case round =>
    obtain ⟨k, hk, rfl, hr⟩ := hrel
    by_cases hlt : k < n
    · obtain ⟨m, hm⟩ : ∃ m, formC (c.drop k) = m := ⟨_, rfl⟩
      have HS := Lib.hid (show (if 0 < m then some k else firstC c (n - (k + 1)) (k + 1)) = R by rw [← hr.out, show n - k = n - (k + 1) + 1 by omega, firstC, hm])
      have HM := Lib.hid hm
      clear hm hr
      by_cases h0 : 0 < m
      · have HG := Lib.hid (show some k = R by rw [← HS.out, if_pos h0])
        have g0 : decide ((0 : Int) < (m : Int)) = true := by rw [decide_eq_true_eq]; omega
        go_wp2_with (go_at_call 174; refine (l12Form_c _ _ _ c k m _ H.out hn HV.out hlt HM.out).mono ?_; rintro e w' ⟨rfl, rfl⟩)
        go_ret
        exact ⟨by rw [← HG.out]; rfl, rfl⟩
      · obtain rfl : m = 0 := by omega
        have HG := Lib.hid (show firstC c (n - (k + 1)) (k + 1) = R by rw [← HS.out, if_neg h0])
        go_wp2_with (go_at_call 174; refine (l12Form_c _ _ _ c k 0 _ H.out hn HV.out hlt HM.out).mono ?_; rintro e w' ⟨rfl, rfl⟩)
        go_round
        case rel => exact ⟨k + 1, by omega, by go_num, HG.out⟩
        case measure => simp [intOf]; omega
    · have HG := Lib.hid (show none = R by rw [← hr.out, show n - k = 0 by omega]; rfl)
      clear hr
      go_wp2_with fail
      go_ret
      exact ⟨by rw [← HG.out]; rfl, rfl⟩
theorem one_pairs (xs : List (Int × Int)) : ∀ u ∈ xs.flatMap enc2, u.oneCell' = true := by
  intro u hu
  obtain ⟨y, _, hy⟩ := List.mem_flatMap.1 hu
  rcases List.mem_cons.1 hy with rfl | hy
  · rfl
  · rw [List.mem_singleton] at hy; subst hy; rfl
theorem flat_take {l : List (Int × Int)} {k : Nat} : (l.flatMap enc2).take (k * 2) = (l.take k).flatMap enc2 := by
  induction l generalizing k with
  | nil => simp
  | cons x l ih =>
    cases k with
    | zero => simp
    | succ k => rw [List.flatMap_cons, List.take_succ_cons, List.flatMap_cons, ← ih, Nat.succ_mul]; rfl
theorem flat_drop {l : List (Int × Int)} {k : Nat} : (l.flatMap enc2).drop (k * 2) = (l.drop k).flatMap enc2 := by
  induction l generalizing k with
  | nil => simp
  | cons x l ih =>
    cases k with
    | zero => simp
    | succ k => rw [List.flatMap_cons, List.drop_succ_cons, ← ih, Nat.succ_mul]; rfl
/-- a part of a list of pairs -/
theorem Rd2.part {w : World} {ad : Addr} {n : Nat} {c : List (Int × Int)} (h : Rd2 w (some ad) n c) (k p : Nat) (hkp : k + p ≤ n) : Rd2 w (some (ad.add (k * 2))) p ((c.drop k).take p) := by
  have hl := h.len
  refine ⟨?_, fun hp => ?_⟩
  · rw [flatX_len enc2 2 enc2_len, List.length_take, List.length_drop, hl]; omega
  · obtain ⟨_, e, hb, hc⟩ := h.2 (by omega)
    injection e with e; subst e
    refine ⟨_, rfl, by rw [block_add]; exact hb, fun j v hj => ?_⟩
    rw [← flat_take, ← flat_drop, List.getElem?_take] at hj
    split at hj
    · rw [List.getElem?_drop] at hj
      rw [add_add]; exact hc _ v hj
    · cases hj
theorem Rd2.upto {w : World} {A : Option Addr} {n : Nat} {c : List (Int × Int)} (h : Rd2 w A n c) (k : Nat) (hk : k ≤ n) : Rd2 w A k (c.take k) := by
  have hl := h.len
  refine ⟨?_, fun hp => ?_⟩
  · rw [flatX_len enc2 2 enc2_len, List.length_take, hl]; omega
  · obtain ⟨ad, rfl, hb, hc⟩ := h.2 (by omega)
    refine ⟨_, rfl, hb, fun j v hj => ?_⟩
    rw [← flat_take, List.getElem?_take] at hj
    split at hj
    · exact hc _ v hj
    · cases hj
theorem Rd2.none0 {w : World} {A : Option Addr} : Rd2 w A 0 [] := ⟨rfl, fun h => absurd h (by omega)⟩
/-- append of a list of pairs to a slice of the call's own -/
theorem info_pComb : (Tryz.prog.info? 100).map (fun i => (i.zero, i.size, i.bytes)) = some (some (.agg #[.int .i64 0, .int .i64 0]), 2, 16) := by kernel_rfl
theorem wp_appComb {ops : Array Oper} {rest : List Oper} {o : Oper} {a : Act} {w : World} {Q : Exit → Act → World → Prop} (hgd : o.guard = none) (s x : Operand)
    (ho : o.op = .call { callee := .builtin .append, args := #[s, x], argTypes := #[37, 37] })
    (B : Nat) (A : Option Addr) (n c : Nat) (vs : List Value) (hs : a.eval s = .slice A n c) (hown : Own w B 100 2 A n c vs)
    (X : Option Addr) (m c' : Nat) (xs : List (Int × Int)) (hx : a.eval x = .slice X m c') (hX : Rd2 w X m xs) (hlen : n + m ≤ 1000000000) (hB : B ≤ w.heap.size)
    (h : ∀ A' cap w', Own w' B 100 2 A' (n + m) cap (vs ++ xs.flatMap enc2) → Below B w w' → (∀ b, b < w.heap.size → (∀ ad', A = some ad' → ad'.block ≠ b) → w'.heap[b]? = w.heap[b]?) → (A' = A ∨ A' = some ⟨w.heap.size, 0, none⟩) → w.heap.size ≤ w'.heap.size →
      wpList Tryz.prog ops Q rest (a.put o.dst (.slice A' (n + m) cap)) w') : wpList Tryz.prog ops Q (o :: rest) a w := by
  by_cases h0 : 0 < m
  · obtain ⟨hl, hc⟩ := hX
    obtain ⟨ad, rfl, hab, hcs⟩ := hc (by omega)
    refine wp_app hgd s x 37 100 (.agg #[.int .i64 0, .int .i64 0]) 2 16 ho Tryz.underlying37 info_pComb rfl (by omega) B A n c vs hs hown ad m c' (xs.flatMap enc2) hx h0 hl hcs (one_pairs xs) (by omega) (by omega) hB ?_
    intro g' cap w2 own2 hb2 hk2 hg2 hz2
    exact h _ cap w2 own2 hb2 hk2 (hg2.elim (fun e => .inl e.symm) (fun e => .inr (by rw [e]))) hz2
  · obtain rfl : m = 0 := by omega
    have hws : xs = [] := List.length_eq_zero_iff.1 hX.len
    subst hws
    refine wp_app0 hgd s x 37 100 (.agg #[.int .i64 0, .int .i64 0]) 2 16 ho Tryz.underlying37 info_pComb A n c hs hown.cap X c' hx ?_
    exact h A c w (by simpa using hown) ⟨rfl, rfl, rfl, Nat.le_refl _, fun _ _ => rfl⟩ (fun _ _ _ => rfl) (.inl rfl) (Nat.le_refl _)
/-- append of a list of pairs to a slice of the call's own -/
theorem info_pLam : (Tryz.prog.info? 62).map (fun i => (i.zero, i.size, i.bytes)) = some (some (.agg #[.int .i64 0, .int .i64 0]), 2, 16) := by kernel_rfl
theorem wp_appLam {ops : Array Oper} {rest : List Oper} {o : Oper} {a : Act} {w : World} {Q : Exit → Act → World → Prop} (hgd : o.guard = none) (s x : Operand)
    (ho : o.op = .call { callee := .builtin .append, args := #[s, x], argTypes := #[25, 25] })
    (B : Nat) (A : Option Addr) (n c : Nat) (vs : List Value) (hs : a.eval s = .slice A n c) (hown : Own w B 62 2 A n c vs)
    (X : Option Addr) (m c' : Nat) (xs : List (Int × Int)) (hx : a.eval x = .slice X m c') (hX : Rd2 w X m xs) (hlen : n + m ≤ 1000000000) (hB : B ≤ w.heap.size)
    (h : ∀ A' cap w', Own w' B 62 2 A' (n + m) cap (vs ++ xs.flatMap enc2) → Below B w w' → (∀ b, b < w.heap.size → (∀ ad', A = some ad' → ad'.block ≠ b) → w'.heap[b]? = w.heap[b]?) → (A' = A ∨ A' = some ⟨w.heap.size, 0, none⟩) → w.heap.size ≤ w'.heap.size →
      wpList Tryz.prog ops Q rest (a.put o.dst (.slice A' (n + m) cap)) w') : wpList Tryz.prog ops Q (o :: rest) a w := by
  by_cases h0 : 0 < m
  · obtain ⟨hl, hc⟩ := hX
    obtain ⟨ad, rfl, hab, hcs⟩ := hc (by omega)
    refine wp_app hgd s x 25 62 (.agg #[.int .i64 0, .int .i64 0]) 2 16 ho Tryz.underlying25 info_pLam rfl (by omega) B A n c vs hs hown ad m c' (xs.flatMap enc2) hx h0 hl hcs (one_pairs xs) (by omega) (by omega) hB ?_
    intro g' cap w2 own2 hb2 hk2 hg2 hz2
    exact h _ cap w2 own2 hb2 hk2 (hg2.elim (fun e => .inl e.symm) (fun e => .inr (by rw [e]))) hz2
  · obtain rfl : m = 0 := by omega
    have hws : xs = [] := List.length_eq_zero_iff.1 hX.len
    subst hws
    refine wp_app0 hgd s x 25 62 (.agg #[.int .i64 0, .int .i64 0]) 2 16 ho Tryz.underlying25 info_pLam A n c hs hown.cap X c' hx ?_
    exact h A c w (by simpa using hown) ⟨rfl, rfl, rfl, Nat.le_refl _, fun _ _ => rfl⟩ (fun _ _ _ => rfl) (.inl rfl) (Nat.le_refl _)
end Go.Proofs.YtebjpmmgdkepjaaGreatDoor
/-
  Contracts of chapter 12: the reference's step of a combinator term.
-/
namespace Go.Proofs.YtebjpmmgdkepjaaGreatDoor
open Go.RowKit

/-- the slice of an argument -/
def argV (ad : Addr) (cp : Nat) (c : List (Int × Int)) (a i : Nat) : Value := .slice (some (ad.add (endI c a i * 2))) (endI c a (i + 1) - endI c a i) (cp - endI c a i)
def argVs (ad : Addr) (cp : Nat) (c : List (Int × Int)) (a i : Nat) : List Value := (List.range i).map (argV ad cp c a)
theorem argVs_succ (ad : Addr) (cp : Nat) (c : List (Int × Int)) (a i : Nat) : argVs ad cp c a (i + 1) = argVs ad cp c a i ++ [argV ad cp c a i] := by simp [argVs, List.range_succ]
theorem argVs_at {ad : Addr} {cp : Nat} {c : List (Int × Int)} {a i j : Nat} (h : j < i) : (argVs ad cp c a i)[j]? = some (argV ad cp c a j) := by simp [argVs, h]
theorem info_sComb : (Tryz.prog.info? 37).map (fun i => (i.zero, i.size, i.bytes)) = some (some (.slice none 0 0), 1, 24) := by kernel_rfl
theorem addrZ (a : Addr) : a.add 0 = a := by simp [Addr.add]
theorem addr1 (a : Addr) : a.add 1 = ⟨a.block, a.off + 1, none⟩ := by rw [Addr.add, if_neg (by omega)]
theorem addr2 (a : Addr) : a.add 2 = ⟨a.block, a.off + 2, none⟩ := by rw [Addr.add, if_neg (by omega)]
theorem rd_new2 {w : World} {t : TypeId} {m : Nat} (xs : List (Int × Int)) (cs : Array Value) (h : cs.toList = xs.flatMap enc2) (hm : xs.length = m) : Rd2 (w.alloc (.cells cs t)) (some ⟨w.heap.size, 0, none⟩) m xs := by
  have hs : cs.size = m * 2 := by rw [← Array.length_toList, h, flatX_len enc2 2 enc2_len, hm]
  exact (Blk.new w t cs).rd (by rw [h]; exact List.take_of_length_le (by rw [← h, Array.length_toList, hs]; exact Nat.le_refl _)) (by omega)
/-- a term of the call's own, and a Bool -/
def StepOut (S : List (Int × Int)) (q : Bool) (w : World) (e : Ending) (w' : World) : Prop := ∃ A N cap, e = .returned (.tuple #[.slice A N cap, .bool q]) ∧ Wr w' w.heap.size w'.heap.size A (N * 2) (S.flatMap enc2) ∧ S.length = N ∧ N ≤ cap ∧ Below w.heap.size w w'
theorem Own.pairs {w : World} {B n cap : Nat} {e : TypeId} {A : Option Addr} {S : List (Int × Int)} (h : Own w B e 2 A n cap (S.flatMap enc2)) : Rd2 w A n S := h.wrK.rd
set_option maxHeartbeats 4000000 in
set_option maxRecDepth 100000 in
theorem l12CombStep_c (A : Option Addr) (n cp : Nat) (c : List (Int × Int)) (k : Nat) (S : List (Int × Int)) (q : Bool) (w : World) (h : Rd2 w A n c) (hn : n ≤ 400) (hnc : n ≤ cp) (hv : endP manyC c 1 = some c.length) (hk : k < n) (hf : 0 < formC (c.drop k)) (hS : stepC c k = S) (hq : validC S = q) :
    Calls Tryz.prog 134 #[.slice A n cp, .int .i64 k] w (StepOut S q w) := by
  have hl := h.len
  have HL := Lib.hid hl
  obtain ⟨m, hm⟩ : ∃ m, formC (c.drop k) = m := ⟨_, rfl⟩
  obtain ⟨a, ha⟩ : ∃ a, k + m + 1 = a := ⟨_, rfl⟩
  have hm1 : 1 ≤ m ∧ m ≤ 3 := by have := formC_lead hf; omega
  obtain ⟨z, hz, hzn⟩ : ∃ z, endI c a m = z ∧ z ≤ n := by
    obtain ⟨h1, r, h2, h3⟩ := form_args hv (by rw [hl]; exact hk)
    rw [← (formC_lead hf).1, hm, ha] at h2 h3
    exact ⟨a + r, endI_all h2, by omega⟩
  have HE := Lib.hid (show ∀ i, i < m → ∃ p, endP manyC (c.drop (endI c a i)) 1 = some p ∧ endI c a i + p = endI c a (i + 1) ∧ 1 ≤ p by
    obtain ⟨h1, r, h2, h3⟩ := form_args hv (by rw [hl]; exact hk)
    rw [← (formC_lead hf).1, hm, ha] at h2
    exact fun i hi => endI_ok h2 hi)
  have HZ := Lib.hid (show ∀ i, i ≤ m → endI c a i ≤ z from fun i hi => by rw [← hz]; exact endI_mono hi)
  have HM := Lib.hid hm; have HA := Lib.hid ha
  have HS := Lib.hid (show c.take k ++ byC c k m ++ c.drop z = S by rw [← hS, stepC, hm, ha, hz])
  have HQ := Lib.hid hq
  have HZE := Lib.hid hz
  have HV := Lib.hid hv
  obtain ⟨ad, rfl, hab, _⟩ := h.2 (by omega)
  have H := Lib.hid h
  clear h hl hm ha hS hq hz hv hf
  go_enter Tryz.func134, Tryz.ntmps134
  go_wp2_with (go_at_call 174; refine (l12Form_c _ _ _ c k m _ H.out (by omega) HV.out hk HM.out).mono ?_; rintro e w' ⟨rfl, rfl⟩)
  go_loopw [7, 8, 9] (fun av ev iv wr => ∃ (i : Nat) (B : Option Addr) (cc : Nat), i ≤ m ∧ iv = .int .i64 i ∧ ev = .int .i64 (endI c a i) ∧ av = .slice B i cc ∧ Hid (Own wr w.heap.size 37 1 B i cc (argVs ad cp c a i)) ∧ Below w.heap.size w wr) (fun _ _ iv _ => m - (intOf iv).toNat)
  case atStart => exact ⟨0, some ⟨w.heap.size, 0, none⟩, 0, by omega, rfl, by rw [show endI c a 0 = k + m + 1 from HA.out.symm]; go_num, rfl, Own.lit (Nat.le_refl _), below_size.alloc (Nat.le_refl _) _⟩
  case round =>
    obtain ⟨i, B, cc, hi, rfl, rfl, rfl, hO, hb⟩ := hrel
    have EB := Lib.hid hb
    have hwz := hb.size
    by_cases hlt : i < m
    · obtain ⟨p, hp, he, hp1⟩ := HE.out i hlt
      have hz1 := HZ.out (i + 1) (by omega)
      have HP := Lib.hid hp
      obtain ⟨e0, he0⟩ : ∃ e0, endI c a i = e0 := ⟨_, rfl⟩
      obtain ⟨e1, he1⟩ : ∃ e1, endI c a (i + 1) = e1 := ⟨_, rfl⟩
      have HN := Lib.hid (show argV ad cp c a i = .slice (some (ad.add (e0 * 2))) (e1 - e0) (cp - e0) by rw [argV, he0, he1])
      rw [he0] at HP he
      rw [he1] at he hz1
      have HE0 := Lib.hid he0; have HE1 := Lib.hid he1
      have R := Lib.hid (H.out.below EB.out)
      have HEE := Lib.hid he
      rw [he0]
      clear hp he0 he1
      go_wp2_with (first | (go_at_call 132; refine (l12CombEnd_c _ _ _ c e0 p e1 _ R.out (by omega) HP.out HEE.out).mono ?_; rintro e w' ⟨rfl, rfl⟩) | (at_builtin; refine wp_app1 (by rfl) _ _ 115 37 (.slice none 0 0) 24 (by rfl) Tryz.underlying115 info_sComb rfl w.heap.size B i cc (argVs ad cp c a i) (by rfl) (by exact hO.out.alloc _) wr.heap.size (argV ad cp c a i) (by rfl) (by rw [HN.out]; exact new_cell _ _ _ 0) (by rw [HN.out]; rfl) (by omega) (by omega) (by simp; omega) ?_; intro g' cap w3 own3 hb3 hk3 hg3 hz3))
      have O3 := Lib.hid own3; have E3 := Lib.hid ((EB.out.alloc hwz _).trans hb3)
      clear own3 hb3 hk3 hg3 hz3
      go_wp2_with fail
      go_roundw
      case rel => exact ⟨i + 1, some ⟨g', 0, none⟩, cap, by omega, by go_num, by rw [HE1.out], rfl, by unfold Hid; rw [argVs_succ]; exact O3.out, E3.out⟩
      case measure => simp [intOf]; omega
    · obtain rfl : i = m := by omega
      obtain ⟨wo, rfl⟩ : ∃ wo : World, wo = wr := ⟨_, rfl⟩
      have W := Lib.hid hO.out.wr
      have EB := Lib.hid hb
      have HB0 := hb.size
      obtain ⟨ga, v0, rfl, _, hB0, _, hv0, a0, _⟩ := W.out.at_ (k := 0) (by omega)
      rw [argVs_at (by omega)] at hv0
      injection hv0 with hv0; subst hv0
      rw [addrZ] at a0
      have hX : ∀ j, j < i → ∃ P l d, argV ad cp c a j = .slice (some P) l d ∧ l ≤ n ∧ ∀ w', Below w.heap.size w w' → Rd2 w' (some P) l (argI c a j) := fun j hj => by
        obtain ⟨p, _, h1, _⟩ := HE.out j hj
        have h2 := HZ.out (j + 1) (by omega)
        exact ⟨_, _, _, rfl, by omega, fun w' hb => (H.out.below hb).part _ _ (by omega)⟩
      obtain ⟨P0, l0, d0, hv0, hl0, hx0⟩ := hX 0 (by omega)
      have X0 := Lib.hid hx0
      rw [hv0] at a0
      have XK := Lib.hid (show ∀ w', Below w.heap.size w w' → Rd2 w' (some ad) k (c.take k) from fun w' hb => (H.out.below hb).upto k (by omega))
      rw [HZE.out]
      have hzk : k ≤ 400 := by omega
      have HX := Lib.hid hX
      have WW := Lib.hid (show ∀ j, j < i → wo.cell? (ga.add j) = some (argV ad cp c a j) from fun j hj => by
        obtain ⟨gb, v, e, _, _, _, hv, h1, _⟩ := W.out.at_ hj
        injection e with e; subst e
        rw [argVs_at hj] at hv; injection hv with hv; subst hv; exact h1)
      clear hb hv0 hx0 hX
      by_cases hzc : z < cp
      · have XZ := Lib.hid (show ∀ w', Below w.heap.size w w' → Rd2 w' (some (ad.add (z * 2))) (n - z) (c.drop z) from fun w' hb => by
          have := (H.out.below hb).part z (n - z) (by omega)
          rw [List.take_of_length_le (by rw [List.length_drop, HL.out]; exact Nat.le_refl _)] at this; exact this)
        by_cases h3 : i < 3
        · have HSS := Lib.hid (show c.take k ++ argI c a 0 ++ c.drop z = S by rw [← HS.out, byC, if_pos h3, HA.out])
          clear HE HZ HS
          go_wp2_with (first
            | (at_builtin; refine wp_appComb (by rfl) _ _ (by rfl) wo.heap.size _ _ _ _ (by rfl) (by exact Own.litK (Nat.le_refl _)) _ _ _ (c.take k) (by rfl) (by exact XK.out _ (EB.out.alloc (by omega) _)) (by omega) (by first | omega | (simp <;> omega)) ?_; intro A1 c1 w1 own hb hk hg hz; (try rw [Nat.zero_add] at own); (try rw [Nat.add_zero] at own); (try rw [List.nil_append] at own); have O1 := Lib.hid own; have F1 := Lib.hid ((below_size.alloc (Nat.le_refl _) _).trans hb); have E1 := Lib.hid (below_chain EB.out HB0 F1.out); have hz1 := F1.out.size; have x0 := keepB F1.out hB0 a0; clear own hb hk hg hz)
            | (at_builtin; refine wp_appComb (by rfl) _ _ (by rfl) wo.heap.size _ _ _ _ (by rfl) (by exact O1.out) _ _ _ (argI c a 0) (by rfl) (by exact X0.out _ E1.out) (by omega) (by first | omega | (simp <;> omega)) ?_; intro A2 c2 w2 own hb hk hg hz; (try rw [Nat.zero_add] at own); (try rw [Nat.add_zero] at own); (try rw [List.nil_append] at own); have O2 := Lib.hid own; have F2 := Lib.hid ((F1.out).trans hb); have E2 := Lib.hid (below_chain EB.out HB0 F2.out); have hz2 := F2.out.size; skip; clear own hb hk hg hz)
            | (at_builtin; refine wp_appComb (by rfl) _ _ (by rfl) wo.heap.size _ _ _ _ (by rfl) (by exact O2.out) _ _ _ (c.drop z) (by rfl) (by exact XZ.out _ E2.out) (by omega) (by first | omega | (simp <;> omega)) ?_; intro A3 c3 w3 own hb hk hg hz; (try rw [Nat.zero_add] at own); (try rw [Nat.add_zero] at own); (try rw [List.nil_append] at own); have O3 := Lib.hid own; have F3 := Lib.hid ((F2.out).trans hb); have E3 := Lib.hid (below_chain EB.out HB0 F3.out); have hz3 := F3.out.size; skip; clear own hb hk hg hz))
          have HO := Lib.hid (show Own w3 wo.heap.size 100 2 A3 _ c3 (S.flatMap enc2) by rw [← HSS.out]; simpa [List.flatMap_append, List.append_assoc, enc2] using O3.out)
          have hcap := HO.out.cap
          have HR2 := Lib.hid HO.out.pairs
          have hsl := HR2.out.len
          have EE := Lib.hid E3.out
          go_wp2_with (go_at_call 175; refine (l12Comb_c _ _ _ S q _ HR2.out (by omega) HQ.out).mono ?_; rintro e w' ⟨rfl, hb⟩)
          go_ret2
          exact ⟨_, _, _, rfl, (HO.out.wrK.wider HB0 (Nat.le_refl _)).below hb |>.wider (Nat.le_refl _) hb.size, hsl, hcap, below_chain EE.out EE.out.size hb⟩
        · obtain rfl : i = 3 := by omega
          have HSS := Lib.hid (show c.take k ++ ([(0, 0), (0, 0)] ++ argI c a 0 ++ argI c a 2 ++ [(0, 0)] ++ argI c a 1 ++ argI c a 2) ++ c.drop z = S by rw [← HS.out, byC, if_neg h3, HA.out])
          obtain ⟨P1, l1, d1, hv1, hl1, hx1⟩ := HX.out 1 (by omega)
          obtain ⟨P2, l2, d2, hv2, hl2, hx2⟩ := HX.out 2 (by omega)
          have X1 := Lib.hid hx1; have X2 := Lib.hid hx2
          have a1 : wo.cell? ⟨ga.block, ga.off + 1, none⟩ = some (.slice (some P1) l1 d1) := by rw [← addr1, ← hv1]; exact WW.out 1 (by omega)
          have a2 : wo.cell? ⟨ga.block, ga.off + 2, none⟩ = some (.slice (some P2) l2 d2) := by rw [← addr2, ← hv2]; exact WW.out 2 (by omega)
          clear HE HZ HS hv1 hv2 hx1 hx2
          go_wp2_with (first
            | (at_builtin; refine wp_appComb (by rfl) _ _ (by rfl) wo.heap.size _ _ _ _ (by rfl) (by exact Own.litK (Nat.le_refl _)) _ _ _ (c.take k) (by rfl) (by exact XK.out _ (EB.out.alloc (by omega) _)) (by omega) (by first | omega | (simp <;> omega)) ?_; intro A1 c1 w1 own hb hk hg hz; (try rw [Nat.zero_add] at own); (try rw [Nat.add_zero] at own); (try rw [List.nil_append] at own); have O1 := Lib.hid own; have F1 := Lib.hid ((below_size.alloc (Nat.le_refl _) _).trans hb); have E1 := Lib.hid (below_chain EB.out HB0 F1.out); have hz1 := F1.out.size; skip; clear own hb hk hg hz)
            | (at_builtin; refine wp_appComb (by rfl) _ _ (by rfl) wo.heap.size _ _ _ _ (by rfl) (by exact O1.out.alloc _) _ _ _ ([(0, 0), (0, 0)]) (by rfl) (by exact rd_new2 [(0, 0), (0, 0)] _ rfl rfl) (by omega) (by first | omega | (simp <;> omega)) ?_; intro A2 c2 w2 own hb hk hg hz; (try rw [Nat.zero_add] at own); (try rw [Nat.add_zero] at own); (try rw [List.nil_append] at own); have O2 := Lib.hid own; have F2 := Lib.hid ((F1.out.alloc (by omega) _).trans hb); have E2 := Lib.hid (below_chain EB.out HB0 F2.out); have hz2 := F2.out.size; have x0 := keepB F2.out hB0 a0; clear own hb hk hg hz)
            | (at_builtin; refine wp_appComb (by rfl) _ _ (by rfl) wo.heap.size _ _ _ _ (by rfl) (by exact O2.out) _ _ _ (argI c a 0) (by rfl) (by exact X0.out _ E2.out) (by omega) (by first | omega | (simp <;> omega)) ?_; intro A3 c3 w3 own hb hk hg hz; (try rw [Nat.zero_add] at own); (try rw [Nat.add_zero] at own); (try rw [List.nil_append] at own); have O3 := Lib.hid own; have F3 := Lib.hid ((F2.out).trans hb); have E3 := Lib.hid (below_chain EB.out HB0 F3.out); have hz3 := F3.out.size; have x2 := keepB (p := ⟨ga.block, ga.off + 2, none⟩) F3.out hB0 a2; clear own hb hk hg hz)
            | (at_builtin; refine wp_appComb (by rfl) _ _ (by rfl) wo.heap.size _ _ _ _ (by rfl) (by exact O3.out) _ _ _ (argI c a 2) (by rfl) (by exact X2.out _ E3.out) (by omega) (by first | omega | (simp <;> omega)) ?_; intro A4 c4 w4 own hb hk hg hz; (try rw [Nat.zero_add] at own); (try rw [Nat.add_zero] at own); (try rw [List.nil_append] at own); have O4 := Lib.hid own; have F4 := Lib.hid ((F3.out).trans hb); have E4 := Lib.hid (below_chain EB.out HB0 F4.out); have hz4 := F4.out.size; skip; clear own hb hk hg hz)
            | (at_builtin; refine wp_appComb (by rfl) _ _ (by rfl) wo.heap.size _ _ _ _ (by rfl) (by exact O4.out.alloc _) _ _ _ ([(0, 0)]) (by rfl) (by exact rd_new2 [(0, 0)] _ rfl rfl) (by omega) (by first | omega | (simp <;> omega)) ?_; intro A5 c5 w5 own hb hk hg hz; (try rw [Nat.zero_add] at own); (try rw [Nat.add_zero] at own); (try rw [List.nil_append] at own); have O5 := Lib.hid own; have F5 := Lib.hid ((F4.out.alloc (by omega) _).trans hb); have E5 := Lib.hid (below_chain EB.out HB0 F5.out); have hz5 := F5.out.size; have x1 := keepB (p := ⟨ga.block, ga.off + 1, none⟩) F5.out hB0 a1; clear own hb hk hg hz)
            | (at_builtin; refine wp_appComb (by rfl) _ _ (by rfl) wo.heap.size _ _ _ _ (by rfl) (by exact O5.out) _ _ _ (argI c a 1) (by rfl) (by exact X1.out _ E5.out) (by omega) (by first | omega | (simp <;> omega)) ?_; intro A6 c6 w6 own hb hk hg hz; (try rw [Nat.zero_add] at own); (try rw [Nat.add_zero] at own); (try rw [List.nil_append] at own); have O6 := Lib.hid own; have F6 := Lib.hid ((F5.out).trans hb); have E6 := Lib.hid (below_chain EB.out HB0 F6.out); have hz6 := F6.out.size; have x2 := keepB (p := ⟨ga.block, ga.off + 2, none⟩) F6.out hB0 a2; clear own hb hk hg hz)
            | (at_builtin; refine wp_appComb (by rfl) _ _ (by rfl) wo.heap.size _ _ _ _ (by rfl) (by exact O6.out) _ _ _ (argI c a 2) (by rfl) (by exact X2.out _ E6.out) (by omega) (by first | omega | (simp <;> omega)) ?_; intro A7 c7 w7 own hb hk hg hz; (try rw [Nat.zero_add] at own); (try rw [Nat.add_zero] at own); (try rw [List.nil_append] at own); have O7 := Lib.hid own; have F7 := Lib.hid ((F6.out).trans hb); have E7 := Lib.hid (below_chain EB.out HB0 F7.out); have hz7 := F7.out.size; skip; clear own hb hk hg hz)
            | (at_builtin; refine wp_appComb (by rfl) _ _ (by rfl) wo.heap.size _ _ _ _ (by rfl) (by exact O7.out) _ _ _ (c.drop z) (by rfl) (by exact XZ.out _ E7.out) (by omega) (by first | omega | (simp <;> omega)) ?_; intro A8 c8 w8 own hb hk hg hz; (try rw [Nat.zero_add] at own); (try rw [Nat.add_zero] at own); (try rw [List.nil_append] at own); have O8 := Lib.hid own; have F8 := Lib.hid ((F7.out).trans hb); have E8 := Lib.hid (below_chain EB.out HB0 F8.out); have hz8 := F8.out.size; skip; clear own hb hk hg hz))
          have HO := Lib.hid (show Own w8 wo.heap.size 100 2 A8 _ c8 (S.flatMap enc2) by rw [← HSS.out]; simpa [List.flatMap_append, List.append_assoc, enc2] using O8.out)
          have hcap := HO.out.cap
          have HR2 := Lib.hid HO.out.pairs
          have hsl := HR2.out.len
          have EE := Lib.hid E8.out
          go_wp2_with (go_at_call 175; refine (l12Comb_c _ _ _ S q _ HR2.out (by omega) HQ.out).mono ?_; rintro e w' ⟨rfl, hb⟩)
          go_ret2
          exact ⟨_, _, _, rfl, (HO.out.wrK.wider HB0 (Nat.le_refl _)).below hb |>.wider (Nat.le_refl _) hb.size, hsl, hcap, below_chain EE.out EE.out.size hb⟩
      · obtain rfl : z = cp := by omega
        have XZ := Lib.hid (show ∀ w', Below w.heap.size w w' → Rd2 w' (some ad) 0 (c.drop z) from fun w' hb => by
          rw [List.drop_eq_nil_of_le (by rw [HL.out]; omega)]; exact Rd2.none0)
        by_cases h3 : i < 3
        · have HSS := Lib.hid (show c.take k ++ argI c a 0 ++ c.drop z = S by rw [← HS.out, byC, if_pos h3, HA.out])
          clear HE HZ HS
          go_wp2_with (first
            | (at_builtin; refine wp_appComb (by rfl) _ _ (by rfl) wo.heap.size _ _ _ _ (by rfl) (by exact Own.litK (Nat.le_refl _)) _ _ _ (c.take k) (by rfl) (by exact XK.out _ (EB.out.alloc (by omega) _)) (by omega) (by first | omega | (simp <;> omega)) ?_; intro A1 c1 w1 own hb hk hg hz; (try rw [Nat.zero_add] at own); (try rw [Nat.add_zero] at own); (try rw [List.nil_append] at own); have O1 := Lib.hid own; have F1 := Lib.hid ((below_size.alloc (Nat.le_refl _) _).trans hb); have E1 := Lib.hid (below_chain EB.out HB0 F1.out); have hz1 := F1.out.size; have x0 := keepB F1.out hB0 a0; clear own hb hk hg hz)
            | (at_builtin; refine wp_appComb (by rfl) _ _ (by rfl) wo.heap.size _ _ _ _ (by rfl) (by exact O1.out) _ _ _ (argI c a 0) (by rfl) (by exact X0.out _ E1.out) (by omega) (by first | omega | (simp <;> omega)) ?_; intro A2 c2 w2 own hb hk hg hz; (try rw [Nat.zero_add] at own); (try rw [Nat.add_zero] at own); (try rw [List.nil_append] at own); have O2 := Lib.hid own; have F2 := Lib.hid ((F1.out).trans hb); have E2 := Lib.hid (below_chain EB.out HB0 F2.out); have hz2 := F2.out.size; skip; clear own hb hk hg hz)
            | (at_builtin; refine wp_appComb (by rfl) _ _ (by rfl) wo.heap.size _ _ _ _ (by rfl) (by exact O2.out) _ _ _ (c.drop z) (by rfl) (by exact XZ.out _ E2.out) (by omega) (by first | omega | (simp <;> omega)) ?_; intro A3 c3 w3 own hb hk hg hz; (try rw [Nat.zero_add] at own); (try rw [Nat.add_zero] at own); (try rw [List.nil_append] at own); have O3 := Lib.hid own; have F3 := Lib.hid ((F2.out).trans hb); have E3 := Lib.hid (below_chain EB.out HB0 F3.out); have hz3 := F3.out.size; skip; clear own hb hk hg hz))
          have HO := Lib.hid (show Own w3 wo.heap.size 100 2 A3 _ c3 (S.flatMap enc2) by rw [← HSS.out]; simpa [List.flatMap_append, List.append_assoc, enc2] using O3.out)
          have hcap := HO.out.cap
          have HR2 := Lib.hid HO.out.pairs
          have hsl := HR2.out.len
          have EE := Lib.hid E3.out
          go_wp2_with (go_at_call 175; refine (l12Comb_c _ _ _ S q _ HR2.out (by omega) HQ.out).mono ?_; rintro e w' ⟨rfl, hb⟩)
          go_ret2
          exact ⟨_, _, _, rfl, (HO.out.wrK.wider HB0 (Nat.le_refl _)).below hb |>.wider (Nat.le_refl _) hb.size, hsl, hcap, below_chain EE.out EE.out.size hb⟩
        · obtain rfl : i = 3 := by omega
          have HSS := Lib.hid (show c.take k ++ ([(0, 0), (0, 0)] ++ argI c a 0 ++ argI c a 2 ++ [(0, 0)] ++ argI c a 1 ++ argI c a 2) ++ c.drop z = S by rw [← HS.out, byC, if_neg h3, HA.out])
          obtain ⟨P1, l1, d1, hv1, hl1, hx1⟩ := HX.out 1 (by omega)
          obtain ⟨P2, l2, d2, hv2, hl2, hx2⟩ := HX.out 2 (by omega)
          have X1 := Lib.hid hx1; have X2 := Lib.hid hx2
          have a1 : wo.cell? ⟨ga.block, ga.off + 1, none⟩ = some (.slice (some P1) l1 d1) := by rw [← addr1, ← hv1]; exact WW.out 1 (by omega)
          have a2 : wo.cell? ⟨ga.block, ga.off + 2, none⟩ = some (.slice (some P2) l2 d2) := by rw [← addr2, ← hv2]; exact WW.out 2 (by omega)
          clear HE HZ HS hv1 hv2 hx1 hx2
          go_wp2_with (first
            | (at_builtin; refine wp_appComb (by rfl) _ _ (by rfl) wo.heap.size _ _ _ _ (by rfl) (by exact Own.litK (Nat.le_refl _)) _ _ _ (c.take k) (by rfl) (by exact XK.out _ (EB.out.alloc (by omega) _)) (by omega) (by first | omega | (simp <;> omega)) ?_; intro A1 c1 w1 own hb hk hg hz; (try rw [Nat.zero_add] at own); (try rw [Nat.add_zero] at own); (try rw [List.nil_append] at own); have O1 := Lib.hid own; have F1 := Lib.hid ((below_size.alloc (Nat.le_refl _) _).trans hb); have E1 := Lib.hid (below_chain EB.out HB0 F1.out); have hz1 := F1.out.size; skip; clear own hb hk hg hz)
            | (at_builtin; refine wp_appComb (by rfl) _ _ (by rfl) wo.heap.size _ _ _ _ (by rfl) (by exact O1.out.alloc _) _ _ _ ([(0, 0), (0, 0)]) (by rfl) (by exact rd_new2 [(0, 0), (0, 0)] _ rfl rfl) (by omega) (by first | omega | (simp <;> omega)) ?_; intro A2 c2 w2 own hb hk hg hz; (try rw [Nat.zero_add] at own); (try rw [Nat.add_zero] at own); (try rw [List.nil_append] at own); have O2 := Lib.hid own; have F2 := Lib.hid ((F1.out.alloc (by omega) _).trans hb); have E2 := Lib.hid (below_chain EB.out HB0 F2.out); have hz2 := F2.out.size; have x0 := keepB F2.out hB0 a0; clear own hb hk hg hz)
            | (at_builtin; refine wp_appComb (by rfl) _ _ (by rfl) wo.heap.size _ _ _ _ (by rfl) (by exact O2.out) _ _ _ (argI c a 0) (by rfl) (by exact X0.out _ E2.out) (by omega) (by first | omega | (simp <;> omega)) ?_; intro A3 c3 w3 own hb hk hg hz; (try rw [Nat.zero_add] at own); (try rw [Nat.add_zero] at own); (try rw [List.nil_append] at own); have O3 := Lib.hid own; have F3 := Lib.hid ((F2.out).trans hb); have E3 := Lib.hid (below_chain EB.out HB0 F3.out); have hz3 := F3.out.size; have x2 := keepB (p := ⟨ga.block, ga.off + 2, none⟩) F3.out hB0 a2; clear own hb hk hg hz)
            | (at_builtin; refine wp_appComb (by rfl) _ _ (by rfl) wo.heap.size _ _ _ _ (by rfl) (by exact O3.out) _ _ _ (argI c a 2) (by rfl) (by exact X2.out _ E3.out) (by omega) (by first | omega | (simp <;> omega)) ?_; intro A4 c4 w4 own hb hk hg hz; (try rw [Nat.zero_add] at own); (try rw [Nat.add_zero] at own); (try rw [List.nil_append] at own); have O4 := Lib.hid own; have F4 := Lib.hid ((F3.out).trans hb); have E4 := Lib.hid (below_chain EB.out HB0 F4.out); have hz4 := F4.out.size; skip; clear own hb hk hg hz)
            | (at_builtin; refine wp_appComb (by rfl) _ _ (by rfl) wo.heap.size _ _ _ _ (by rfl) (by exact O4.out.alloc _) _ _ _ ([(0, 0)]) (by rfl) (by exact rd_new2 [(0, 0)] _ rfl rfl) (by omega) (by first | omega | (simp <;> omega)) ?_; intro A5 c5 w5 own hb hk hg hz; (try rw [Nat.zero_add] at own); (try rw [Nat.add_zero] at own); (try rw [List.nil_append] at own); have O5 := Lib.hid own; have F5 := Lib.hid ((F4.out.alloc (by omega) _).trans hb); have E5 := Lib.hid (below_chain EB.out HB0 F5.out); have hz5 := F5.out.size; have x1 := keepB (p := ⟨ga.block, ga.off + 1, none⟩) F5.out hB0 a1; clear own hb hk hg hz)
            | (at_builtin; refine wp_appComb (by rfl) _ _ (by rfl) wo.heap.size _ _ _ _ (by rfl) (by exact O5.out) _ _ _ (argI c a 1) (by rfl) (by exact X1.out _ E5.out) (by omega) (by first | omega | (simp <;> omega)) ?_; intro A6 c6 w6 own hb hk hg hz; (try rw [Nat.zero_add] at own); (try rw [Nat.add_zero] at own); (try rw [List.nil_append] at own); have O6 := Lib.hid own; have F6 := Lib.hid ((F5.out).trans hb); have E6 := Lib.hid (below_chain EB.out HB0 F6.out); have hz6 := F6.out.size; have x2 := keepB (p := ⟨ga.block, ga.off + 2, none⟩) F6.out hB0 a2; clear own hb hk hg hz)
            | (at_builtin; refine wp_appComb (by rfl) _ _ (by rfl) wo.heap.size _ _ _ _ (by rfl) (by exact O6.out) _ _ _ (argI c a 2) (by rfl) (by exact X2.out _ E6.out) (by omega) (by first | omega | (simp <;> omega)) ?_; intro A7 c7 w7 own hb hk hg hz; (try rw [Nat.zero_add] at own); (try rw [Nat.add_zero] at own); (try rw [List.nil_append] at own); have O7 := Lib.hid own; have F7 := Lib.hid ((F6.out).trans hb); have E7 := Lib.hid (below_chain EB.out HB0 F7.out); have hz7 := F7.out.size; skip; clear own hb hk hg hz)
            | (at_builtin; refine wp_appComb (by rfl) _ _ (by rfl) wo.heap.size _ _ _ _ (by rfl) (by exact O7.out) _ _ _ (c.drop z) (by rfl) (by exact XZ.out _ E7.out) (by omega) (by first | omega | (simp <;> omega)) ?_; intro A8 c8 w8 own hb hk hg hz; (try rw [Nat.zero_add] at own); (try rw [Nat.add_zero] at own); (try rw [List.nil_append] at own); have O8 := Lib.hid own; have F8 := Lib.hid ((F7.out).trans hb); have E8 := Lib.hid (below_chain EB.out HB0 F8.out); have hz8 := F8.out.size; skip; clear own hb hk hg hz))
          have HO := Lib.hid (show Own w8 wo.heap.size 100 2 A8 _ c8 (S.flatMap enc2) by rw [← HSS.out]; simpa [List.flatMap_append, List.append_assoc, enc2] using O8.out)
          have hcap := HO.out.cap
          have HR2 := Lib.hid HO.out.pairs
          have hsl := HR2.out.len
          have EE := Lib.hid E8.out
          go_wp2_with (go_at_call 175; refine (l12Comb_c _ _ _ S q _ HR2.out (by omega) HQ.out).mono ?_; rintro e w' ⟨rfl, hb⟩)
          go_ret2
          exact ⟨_, _, _, rfl, (HO.out.wrK.wider HB0 (Nat.le_refl _)).below hb |>.wider (Nat.le_refl _) hb.size, hsl, hcap, below_chain EE.out EE.out.size hb⟩
end Go.Proofs.YtebjpmmgdkepjaaGreatDoor
