/-
  Contracts of chapter 12: forms of the reference; append of lists of pairs.
-/
import Derived.Test.YtfgnhdmiglobhaaC12a
import Derived.Test.YtfgnhdmiglobhaaApp
namespace Go.Proofs.Ytfgnhdmiglobhaa
open Go.RowKit

set_option maxHeartbeats 2000000 in
set_option maxRecDepth 100000 in
theorem l12Form_c (A : Option Addr) (n cp : Nat) (c : List (Int × Int)) (k m : Nat) (w : World) (h : Rd2 w A n c) (hn : n ≤ 1000000000) (hv : endP manyC c 1 = some c.length) (hk : k < n) (hm : formC (c.drop k) = m) :
    Calls Try.prog 84 #[.slice A n cp, .int .i64 k] w fun e w' => e = .returned (.int .i64 m) ∧ w = w' := by
  have HL := Lib.hid h.len
  obtain ⟨ld, hld⟩ : ∃ ld, leadC (c.drop k) = ld := ⟨_, rfl⟩
  have hll : k + ld < n := by have := (form_args hv (by rw [h.len]; exact hk)).1; rw [hld, h.len] at this; omega
  obtain ⟨_, y, rfl, hab, hy, hyc, _⟩ := h.at_ hll
  have HA := Lib.hid (show ∀ i x, i < ld → c[k + i]? = some x → x.1 = 0 from fun i x hi hx => leadC_app (l := c.drop k) (i := i) (by rw [List.getElem?_drop]; exact hx) (by rw [hld]; exact hi))
  have hy0 : y.1 ≠ 0 := leadC_stop (l := c.drop k) (by rw [hld, List.getElem?_drop]; exact hy)
  have HM := Lib.hid (show (if y.1 = 3 ∧ ld = 1 ∨ y.1 = 2 ∧ ld = 2 ∨ y.1 = 1 ∧ ld = 3 then ld else 0) = m by rw [← hm, formC, hld, List.getElem?_drop, hy])
  have H := Lib.hid h
  obtain ⟨t, v⟩ := y
  simp only at hyc hy0 HM
  have g0 : (t == 0) = false := by simpa using hy0
  clear h hm hld hy hv
  go_enter Try.func84, Try.ntmps84
  go_wp2_with fail
  go_loop [1, 5] (fun kv nv => ∃ i : Nat, i ≤ ld ∧ kv = .int .i64 ((k + i : Nat) : Int) ∧ nv = .int .i64 i) (fun _ nv => ld - (intOf nv).toNat)
  case atStart => exact ⟨0, by omega, by rw [Nat.add_zero], rfl⟩
  case round =>
    obtain ⟨i, hi, rfl, rfl⟩ := hrel
    by_cases hlt : i < ld
    · obtain ⟨_, x, e, hab', hx, hc0, hc1⟩ := H.out.at_ (k := k + i) (by omega)
      injection e with e; subst e
      have hx0 := HA.out i x hlt hx
      obtain ⟨x0, x1⟩ := x
      simp only at hx0; subst hx0
      clear hx
      go_wp2_with fail
      go_round
      case rel => exact ⟨i + 1, by omega, by go_num, by go_num⟩
      case measure => simp [intOf]; omega
    · obtain rfl : i = ld := by omega
      by_cases h3 : t = 3
      · subst h3
        by_cases h1 : i = 1
        · subst h1
          go_wp2_with fail
          go_ret
          exact ⟨by rw [← HM.out]; rfl, rfl⟩
        · have e1 : ((i : Int) == 1) = false := by simp; omega
          have HG := Lib.hid (show 0 = m by rw [← HM.out, if_neg (by omega)])
          go_wp2_with fail
          go_ret
          exact ⟨by rw [← HG.out]; rfl, rfl⟩
      have e3 : (t == 3) = false := by simpa using h3
      by_cases h2 : t = 2
      · subst h2
        by_cases h1 : i = 2
        · subst h1
          go_wp2_with fail
          go_ret
          exact ⟨by rw [← HM.out]; rfl, rfl⟩
        · have e1 : ((i : Int) == 2) = false := by simp; omega
          have HG := Lib.hid (show 0 = m by rw [← HM.out, if_neg (by omega)])
          go_wp2_with fail
          go_ret
          exact ⟨by rw [← HG.out]; rfl, rfl⟩
      have e2 : (t == 2) = false := by simpa using h2
      by_cases h1 : t = 1
      · subst h1
        by_cases h1 : i = 3
        · subst h1
          go_wp2_with fail
          go_ret
          exact ⟨by rw [← HM.out]; rfl, rfl⟩
        · have e1 : ((i : Int) == 3) = false := by simp; omega
          have HG := Lib.hid (show 0 = m by rw [← HM.out, if_neg (by omega)])
          go_wp2_with fail
          go_ret
          exact ⟨by rw [← HG.out]; rfl, rfl⟩
      have e1 : (t == 1) = false := by simpa using h1
      have HG := Lib.hid (show 0 = m by rw [← HM.out, if_neg (by omega)])
      go_wp2_with fail
      go_ret
      exact ⟨by rw [← HG.out]; rfl, rfl⟩
def atI : Option Nat → Int
  | none => -1
  | some k => k
set_option maxHeartbeats 1000000 in
theorem l12CombAt_c (A : Option Addr) (n cp : Nat) (c : List (Int × Int)) (R : Option Nat) (w : World) (h : Rd2 w A n c) (hn : n ≤ 1000000000) (hv : endP manyC c 1 = some c.length) (hR : firstC c n 0 = R) :
    Calls Try.prog 56 #[.slice A n cp] w fun e w' => e = .returned (.int .i64 (atI R)) ∧ w = w' := by
  have H := Lib.hid h; have HR := Lib.hid hR; have HV := Lib.hid hv; clear h hR hv
  go_enter Try.func56, Try.ntmps56
  go_wp2_with fail
  go_loop [3] (fun iv => ∃ k : Nat, k ≤ n ∧ iv = .int .i64 k ∧ Hid (firstC c (n - k) k = R)) (fun iv => n - (intOf iv).toNat)
  case atStart => exact ⟨0, by omega, rfl, HR.out⟩
  case round =>
    obtain ⟨k, hk, rfl, hr⟩ := hrel
    by_cases hlt : k < n
    · obtain ⟨m, hm⟩ : ∃ m, formC (c.drop k) = m := ⟨_, rfl⟩
      have HS := Lib.hid (show (if 0 < m then some k else firstC c (n - (k + 1)) (k + 1)) = R by rw [← hr.out, show n - k = n - (k + 1) + 1 by omega, firstC, hm])
      have HM := Lib.hid hm
      clear hm hr
      by_cases h0 : 0 < m
      · have HG := Lib.hid (show some k = R by rw [← HS.out, if_pos h0])
        have g0 : decide ((0 : Int) < (m : Int)) = true := by rw [decide_eq_true_eq]; omega
        go_wp2_with (go_at_call 84; refine (l12Form_c _ _ _ c k m _ H.out hn HV.out hlt HM.out).mono ?_; rintro e w' ⟨rfl, rfl⟩)
        go_ret
        exact ⟨by rw [← HG.out]; rfl, rfl⟩
      · obtain rfl : m = 0 := by omega
        have HG := Lib.hid (show firstC c (n - (k + 1)) (k + 1) = R by rw [← HS.out, if_neg h0])
        go_wp2_with (go_at_call 84; refine (l12Form_c _ _ _ c k 0 _ H.out hn HV.out hlt HM.out).mono ?_; rintro e w' ⟨rfl, rfl⟩)
        go_round
        case rel => exact ⟨k + 1, by omega, by go_num, HG.out⟩
        case measure => simp [intOf]; omega
    · have HG := Lib.hid (show none = R by rw [← hr.out, show n - k = 0 by omega]; rfl)
      clear hr
      go_wp2_with fail
      go_ret
      exact ⟨by rw [← HG.out]; rfl, rfl⟩
theorem one_pairs (xs : List (Int × Int)) : ∀ u ∈ xs.flatMap enc2, u.oneCell' = true := by
  intro u hu
  obtain ⟨y, _, hy⟩ := List.mem_flatMap.1 hu
  rcases List.mem_cons.1 hy with rfl | hy
  · rfl
  · rw [List.mem_singleton] at hy; subst hy; rfl
theorem flat_take {l : List (Int × Int)} {k : Nat} : (l.flatMap enc2).take (k * 2) = (l.take k).flatMap enc2 := by
  induction l generalizing k with
  | nil => simp
  | cons x l ih =>
    cases k with
    | zero => simp
    | succ k => rw [List.flatMap_cons, List.take_succ_cons, List.flatMap_cons, ← ih, Nat.succ_mul]; rfl
theorem flat_drop {l : List (Int × Int)} {k : Nat} : (l.flatMap enc2).drop (k * 2) = (l.drop k).flatMap enc2 := by
  induction l generalizing k with
  | nil => simp
  | cons x l ih =>
    cases k with
    | zero => simp
    | succ k => rw [List.flatMap_cons, List.drop_succ_cons, ← ih, Nat.succ_mul]; rfl
/-- a part of a list of pairs -/
theorem Rd2.part {w : World} {ad : Addr} {n : Nat} {c : List (Int × Int)} (h : Rd2 w (some ad) n c) (k p : Nat) (hkp : k + p ≤ n) : Rd2 w (some (ad.add (k * 2))) p ((c.drop k).take p) := by
  have hl := h.len
  refine ⟨?_, fun hp => ?_⟩
  · rw [flatX_len enc2 2 enc2_len, List.length_take, List.length_drop, hl]; omega
  · obtain ⟨_, e, hb, hc⟩ := h.2 (by omega)
    injection e with e; subst e
    refine ⟨_, rfl, by rw [block_add]; exact hb, fun j v hj => ?_⟩
    rw [← flat_take, ← flat_drop, List.getElem?_take] at hj
    split at hj
    · rw [List.getElem?_drop] at hj
      rw [add_add]; exact hc _ v hj
    · cases hj
theorem Rd2.upto {w : World} {A : Option Addr} {n : Nat} {c : List (Int × Int)} (h : Rd2 w A n c) (k : Nat) (hk : k ≤ n) : Rd2 w A k (c.take k) := by
  have hl := h.len
  refine ⟨?_, fun hp => ?_⟩
  · rw [flatX_len enc2 2 enc2_len, List.length_take, hl]; omega
  · obtain ⟨ad, rfl, hb, hc⟩ := h.2 (by omega)
    refine ⟨_, rfl, hb, fun j v hj => ?_⟩
    rw [← flat_take, List.getElem?_take] at hj
    split at hj
    · exact hc _ v hj
    · cases hj
theorem Rd2.none0 {w : World} {A : Option Addr} : Rd2 w A 0 [] := ⟨rfl, fun h => absurd h (by omega)⟩
/-- append of a list of pairs to a slice of the call's own -/
theorem info_pComb : (Try.prog.info? 50).map (fun i => (i.zero, i.size, i.bytes)) = some (some (.agg #[.int .i64 0, .int .i64 0]), 2, 16) := by kernel_rfl
theorem wp_appComb {ops : Array Oper} {rest : List Oper} {o : Oper} {a : Act} {w : World} {Q : Exit → Act → World → Prop} (hgd : o.guard = none) (s x : Operand)
    (ho : o.op = .call { callee := .builtin .append, args := #[s, x], argTypes := #[24, 24] })
    (B : Nat) (A : Option Addr) (n c : Nat) (vs : List Value) (hs : a.eval s = .slice A n c) (hown : Own w B 50 2 A n c vs)
    (X : Option Addr) (m c' : Nat) (xs : List (Int × Int)) (hx : a.eval x = .slice X m c') (hX : Rd2 w X m xs) (hlen : n + m ≤ 1000000000) (hB : B ≤ w.heap.size)
    (h : ∀ A' cap w', Own w' B 50 2 A' (n + m) cap (vs ++ xs.flatMap enc2) → Below B w w' → (∀ b, b < w.heap.size → (∀ ad', A = some ad' → ad'.block ≠ b) → w'.heap[b]? = w.heap[b]?) → (A' = A ∨ A' = some ⟨w.heap.size, 0, none⟩) → w.heap.size ≤ w'.heap.size →
      wpList Try.prog ops Q rest (a.put o.dst (.slice A' (n + m) cap)) w') : wpList Try.prog ops Q (o :: rest) a w := by
  by_cases h0 : 0 < m
  · obtain ⟨hl, hc⟩ := hX
    obtain ⟨ad, rfl, hab, hcs⟩ := hc (by omega)
    refine wp_app hgd s x 24 50 (.agg #[.int .i64 0, .int .i64 0]) 2 16 ho Try.underlying24 info_pComb rfl (by omega) B A n c vs hs hown ad m c' (xs.flatMap enc2) hx h0 hl hcs (one_pairs xs) (by omega) (by omega) hB ?_
    intro g' cap w2 own2 hb2 hk2 hg2 hz2
    exact h _ cap w2 own2 hb2 hk2 (hg2.elim (fun e => .inl e.symm) (fun e => .inr (by rw [e]))) hz2
  · obtain rfl : m = 0 := by omega
    have hws : xs = [] := List.length_eq_zero_iff.1 hX.len
    subst hws
    refine wp_app0 hgd s x 24 50 (.agg #[.int .i64 0, .int .i64 0]) 2 16 ho Try.underlying24 info_pComb A n c hs hown.cap X c' hx ?_
    exact h A c w (by simpa using hown) ⟨rfl, rfl, rfl, Nat.le_refl _, fun _ _ => rfl⟩ (fun _ _ _ => rfl) (.inl rfl) (Nat.le_refl _)
/-- append of a list of pairs to a slice of the call's own -/
theorem info_pLam : (Try.prog.info? 72).map (fun i => (i.zero, i.size, i.bytes)) = some (some (.agg #[.int .i64 0, .int .i64 0]), 2, 16) := by kernel_rfl
theorem wp_appLam {ops : Array Oper} {rest : List Oper} {o : Oper} {a : Act} {w : World} {Q : Exit → Act → World → Prop} (hgd : o.guard = none) (s x : Operand)
    (ho : o.op = .call { callee := .builtin .append, args := #[s, x], argTypes := #[38, 38] })
    (B : Nat) (A : Option Addr) (n c : Nat) (vs : List Value) (hs : a.eval s = .slice A n c) (hown : Own w B 72 2 A n c vs)
    (X : Option Addr) (m c' : Nat) (xs : List (Int × Int)) (hx : a.eval x = .slice X m c') (hX : Rd2 w X m xs) (hlen : n + m ≤ 1000000000) (hB : B ≤ w.heap.size)
    (h : ∀ A' cap w', Own w' B 72 2 A' (n + m) cap (vs ++ xs.flatMap enc2) → Below B w w' → (∀ b, b < w.heap.size → (∀ ad', A = some ad' → ad'.block ≠ b) → w'.heap[b]? = w.heap[b]?) → (A' = A ∨ A' = some ⟨w.heap.size, 0, none⟩) → w.heap.size ≤ w'.heap.size →
      wpList Try.prog ops Q rest (a.put o.dst (.slice A' (n + m) cap)) w') : wpList Try.prog ops Q (o :: rest) a w := by
  by_cases h0 : 0 < m
  · obtain ⟨hl, hc⟩ := hX
    obtain ⟨ad, rfl, hab, hcs⟩ := hc (by omega)
    refine wp_app hgd s x 38 72 (.agg #[.int .i64 0, .int .i64 0]) 2 16 ho Try.underlying38 info_pLam rfl (by omega) B A n c vs hs hown ad m c' (xs.flatMap enc2) hx h0 hl hcs (one_pairs xs) (by omega) (by omega) hB ?_
    intro g' cap w2 own2 hb2 hk2 hg2 hz2
    exact h _ cap w2 own2 hb2 hk2 (hg2.elim (fun e => .inl e.symm) (fun e => .inr (by rw [e]))) hz2
  · obtain rfl : m = 0 := by omega
    have hws : xs = [] := List.length_eq_zero_iff.1 hX.len
    subst hws
    refine wp_app0 hgd s x 38 72 (.agg #[.int .i64 0, .int .i64 0]) 2 16 ho Try.underlying38 info_pLam A n c hs hown.cap X c' hx ?_
    exact h A c w (by simpa using hown) ⟨rfl, rfl, rfl, Nat.le_refl _, fun _ _ => rfl⟩ (fun _ _ _ => rfl) (.inl rfl) (Nat.le_refl _)
end Go.Proofs.Ytfgnhdmiglobhaa
