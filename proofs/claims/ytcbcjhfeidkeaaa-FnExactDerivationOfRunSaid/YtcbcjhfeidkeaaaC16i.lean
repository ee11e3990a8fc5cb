/-
  Contracts of chapter 16: the configuration that a word shows, of the program.
-/
import Derived.Test.YtcbcjhfeidkeaaaC16h
import Derived.Test.YtcbcjhfeidkeaaaRevT
import Derived.Test.YtcbcjhfeidkeaaaPreB
namespace Go.Proofs.Ytcbcjhfeidkeaaa
open Go.RowKit

theorem firstS_or {p : Int → Bool} : ∀ (l : List Int) (i : Nat), firstS p i l = -1 ∨ ∃ k x, firstS p i l = ((i + k : Nat) : Int) ∧ l[k]? = some x ∧ p x = true
  | [], i => .inl rfl
  | x :: l, i => by
    rw [firstS]
    cases hp : p x with
    | true => exact .inr ⟨0, x, by simp, rfl, hp⟩
    | false =>
      rw [if_neg (by simp)]
      rcases firstS_or l (i + 1) with h | ⟨k, y, h, hy, hpy⟩
      · exact .inl h
      · exact .inr ⟨k + 1, y, by rw [h]; omega, by simpa using hy, hpy⟩
/-- a configuration of the call's own, and whether there is one -/
def ShOut (X : Option (Int × List Int × List Int)) (w : World) (e' : Ending) (w' : World) : Prop :=
  match X with
  | none => e' = .returned (.tuple #[.agg #[i64 0, .slice none 0 0, .slice none 0 0], .bool false]) ∧ Below w.heap.size w w'
  | some (q, L, M) => ∃ A n c B m d, e' = .returned (.tuple #[.agg #[i64 q, .slice A n c, .slice B m d], .bool true]) ∧ WrS w' w.heap.size w'.heap.size ([sgI A n L] ++ [sgI B m M]) ∧ (n ≤ 1000000 ∧ m ≤ 1000000) ∧ n = L.length ∧ m = M.length ∧ Below w.heap.size w w'
set_option maxHeartbeats 4000000 in
set_option maxRecDepth 100000 in
theorem shown0_c (s e : Int) (A : Option Addr) (n c : Nat) (ws : List Int) (w : World) (h : RdI w A n ws) (_hs : 2 ≤ s ∧ s ≤ 6) (_he : s < e ∧ e ≤ 9) (hn : n ≤ 100000) (hf : frameB e ws = false) :
    Calls Try.prog 68 #[.agg #[.int .i64 s, .int .i64 e], .slice A n c] w (ShOut none w) := by
  have hl := h.len
  obtain ⟨w0, hw0⟩ : ∃ w0, (w.alloc (.cells #[.int .i64 s, .int .i64 e] 99)).alloc (.cells #[.int .i64 0, .slice none 0 0, .slice none 0 0] 30) = w0 := ⟨_, rfl⟩
  have E0 := Lib.hid (show Below w.heap.size w w0 by rw [← hw0]; exact (below_size.alloc (Nat.le_refl _) _).alloc (by simp) _)
  have KA := Lib.hid (show Blk w0 w.heap.size 99 #[.int .i64 s, .int .i64 e] by rw [← hw0]; exact (Blk.new _ _ _).alloc _)
  have KC := Lib.hid (show Blk w0 (w.heap.size + 1) 30 #[.int .i64 0, .slice none 0 0, .slice none 0 0] by rw [← hw0]; exact blk_new2 _ _ _ _ (by simp))
  have H := Lib.hid (RdI.below h E0.out)
  have HF := Lib.hid hf
  have k0 : w0.cell? ⟨w.heap.size, 0, none⟩ = some (.int .i64 s) := KA.out.cell 0
  have k1 : w0.cell? ⟨w.heap.size, 1, none⟩ = some (.int .i64 e) := KA.out.cell 1
  have z0 : w0.cell? ⟨w.heap.size + 1, 0, none⟩ = some (.int .i64 0) := KC.out.cell 0
  have z1 : w0.cell? ⟨w.heap.size + 1, 1, none⟩ = some (.slice none 0 0) := KC.out.cell 1
  have z2 : w0.cell? ⟨w.heap.size + 1, 2, none⟩ = some (.slice none 0 0) := KC.out.cell 2
  have f0 := KC.out.frozen 0; have f1 := KC.out.frozen 1; have f2 := KC.out.frozen 2
  clear h hf
  by_cases h3 : 3 ≤ n
  · have g : decide ((n : Int) - 1 < 2) = false := by rw [decide_eq_false_iff_not]; omega
    obtain ⟨ad, x, rfl, _, hx, hc0⟩ := RdI.at_ H.out (k := 0) (by omega)
    obtain ⟨_, y, e1, _, hy, hc9⟩ := RdI.at_ H.out (k := n - 1) (by omega)
    injection e1 with e1; subst e1
    rw [show ad.add 0 = ad by cases ad; rfl] at hc0
    have g2 : ((n : Int) - 1).toNat = n - 1 := by omega
    by_cases q1 : x = e
    · have q2 : y ≠ e := by
        intro hye
        have := HF.out
        rw [frameB, hl, decide_eq_true h3, hx, hy, q1, hye] at this
        simp at this
      have b1 : (x != e) = false := by simp [q1]
      have b2 : (y != e) = true := by simp [q2]
      clear hx hy HF q1 q2
      go_enter Try.func68, Try.ntmps68
      go_wp2_with fail
      go_quiet (fail)
      go_wp2_with fail
      replace E0 := Lib.hid (below_drewN E0.out nq); replace KC := Lib.hid (KC.out.drewN nq)
      obtain ⟨w9, hw9⟩ : ∃ w9, ((((w0.drewN nq).setCell ⟨w.heap.size + 1, 0, none⟩ (.int .i64 0)).setCell ⟨w.heap.size + 1, 1, none⟩ (.slice none 0 0)).setCell ⟨w.heap.size + 1, 2, none⟩ (.slice none 0 0)) = w9 := ⟨_, rfl⟩
      rw [hw9]
      have KZ : Blk w9 (w.heap.size + 1) 30 #[.int .i64 0, .slice none 0 0, .slice none 0 0] := by rw [← hw9]; exact (((KC.out.set_ 0 _).set_ 1 _).set_ 2 _)
      have BZ : Below w.heap.size w w9 := by rw [← hw9]; exact ((E0.out.setCell (by simp) _).setCell (by simp) _).setCell (by simp) _
      have y0 : w9.cell? ⟨w.heap.size + 1, 0, none⟩ = some (.int .i64 0) := KZ.cell 0
      have y1 : w9.cell? ⟨w.heap.size + 1, 1, none⟩ = some (.slice none 0 0) := KZ.cell 1
      have y2 : w9.cell? ⟨w.heap.size + 1, 2, none⟩ = some (.slice none 0 0) := KZ.cell 2
      clear hw9 KZ
      refine bodyPost_ret (v := .tuple #[.agg #[.int .i64 0, .slice none 0 0, .slice none 0 0], .bool false]) (by simp [results, Try.results68, go_sem, y0, y1, y2]) rfl ?_
      exact ⟨rfl, BZ⟩
    · have b1 : (x != e) = true := by simp [q1]
      clear hx hy HF q1
      go_enter Try.func68, Try.ntmps68
      go_wp2_with fail
      go_quiet (fail)
      go_wp2_with fail
      replace E0 := Lib.hid (below_drewN E0.out nq); replace KC := Lib.hid (KC.out.drewN nq)
      obtain ⟨w9, hw9⟩ : ∃ w9, ((((w0.drewN nq).setCell ⟨w.heap.size + 1, 0, none⟩ (.int .i64 0)).setCell ⟨w.heap.size + 1, 1, none⟩ (.slice none 0 0)).setCell ⟨w.heap.size + 1, 2, none⟩ (.slice none 0 0)) = w9 := ⟨_, rfl⟩
      rw [hw9]
      have KZ : Blk w9 (w.heap.size + 1) 30 #[.int .i64 0, .slice none 0 0, .slice none 0 0] := by rw [← hw9]; exact (((KC.out.set_ 0 _).set_ 1 _).set_ 2 _)
      have BZ : Below w.heap.size w w9 := by rw [← hw9]; exact ((E0.out.setCell (by simp) _).setCell (by simp) _).setCell (by simp) _
      have y0 : w9.cell? ⟨w.heap.size + 1, 0, none⟩ = some (.int .i64 0) := KZ.cell 0
      have y1 : w9.cell? ⟨w.heap.size + 1, 1, none⟩ = some (.slice none 0 0) := KZ.cell 1
      have y2 : w9.cell? ⟨w.heap.size + 1, 2, none⟩ = some (.slice none 0 0) := KZ.cell 2
      clear hw9 KZ
      refine bodyPost_ret (v := .tuple #[.agg #[.int .i64 0, .slice none 0 0, .slice none 0 0], .bool false]) (by simp [results, Try.results68, go_sem, y0, y1, y2]) rfl ?_
      exact ⟨rfl, BZ⟩
  · have g : decide ((n : Int) - 1 < 2) = true := by rw [decide_eq_true_eq]; omega
    clear HF
    go_enter Try.func68, Try.ntmps68
    go_wp2_with fail
    go_quiet (fail)
    go_wp2_with fail
    replace E0 := Lib.hid (below_drewN E0.out nq); replace KC := Lib.hid (KC.out.drewN nq)
    obtain ⟨w9, hw9⟩ : ∃ w9, ((((w0.drewN nq).setCell ⟨w.heap.size + 1, 0, none⟩ (.int .i64 0)).setCell ⟨w.heap.size + 1, 1, none⟩ (.slice none 0 0)).setCell ⟨w.heap.size + 1, 2, none⟩ (.slice none 0 0)) = w9 := ⟨_, rfl⟩
    rw [hw9]
    have KZ : Blk w9 (w.heap.size + 1) 30 #[.int .i64 0, .slice none 0 0, .slice none 0 0] := by rw [← hw9]; exact (((KC.out.set_ 0 _).set_ 1 _).set_ 2 _)
    have BZ : Below w.heap.size w w9 := by rw [← hw9]; exact ((E0.out.setCell (by simp) _).setCell (by simp) _).setCell (by simp) _
    have y0 : w9.cell? ⟨w.heap.size + 1, 0, none⟩ = some (.int .i64 0) := KZ.cell 0
    have y1 : w9.cell? ⟨w.heap.size + 1, 1, none⟩ = some (.slice none 0 0) := KZ.cell 1
    have y2 : w9.cell? ⟨w.heap.size + 1, 2, none⟩ = some (.slice none 0 0) := KZ.cell 2
    clear hw9 KZ
    refine bodyPost_ret (v := .tuple #[.agg #[.int .i64 0, .slice none 0 0, .slice none 0 0], .bool false]) (by simp [results, Try.results68, go_sem, y0, y1, y2]) rfl ?_
    exact ⟨rfl, BZ⟩
set_option maxHeartbeats 4000000 in
set_option maxRecDepth 100000 in
theorem shownA_c (s e : Int) (A : Option Addr) (n c : Nat) (ws : List Int) (X : Option (Int × List Int × List Int)) (w : World) (h : RdI w A n ws) (hs : 2 ≤ s ∧ s ≤ 6) (he : s < e ∧ e ≤ 9) (hn : n ≤ 100000) (hnc : n ≤ c) (hf : frameB e ws = true) (hX : shownW s e ws = X) :
    Calls Try.prog 68 #[.agg #[.int .i64 s, .int .i64 e], .slice A n c] w (ShOut X w) := by
  have hl := h.len
  obtain ⟨w0, hw0⟩ : ∃ w0, (w.alloc (.cells #[.int .i64 s, .int .i64 e] 99)).alloc (.cells #[.int .i64 0, .slice none 0 0, .slice none 0 0] 30) = w0 := ⟨_, rfl⟩
  have E0 := Lib.hid (show Below w.heap.size w w0 by rw [← hw0]; exact (below_size.alloc (Nat.le_refl _) _).alloc (by simp) _)
  have KA := Lib.hid (show Blk w0 w.heap.size 99 #[.int .i64 s, .int .i64 e] by rw [← hw0]; exact (Blk.new _ _ _).alloc _)
  have KC := Lib.hid (show Blk w0 (w.heap.size + 1) 30 #[.int .i64 0, .slice none 0 0, .slice none 0 0] by rw [← hw0]; exact blk_new2 _ _ _ _ (by simp))
  have H := Lib.hid (RdI.below h E0.out)
  have k0 : w0.cell? ⟨w.heap.size, 0, none⟩ = some (.int .i64 s) := KA.out.cell 0
  have k1 : w0.cell? ⟨w.heap.size, 1, none⟩ = some (.int .i64 e) := KA.out.cell 1
  have hf' := hf
  simp only [frameB, Bool.and_eq_true, decide_eq_true_eq, hl] at hf'
  obtain ⟨⟨h3, q1⟩, q2⟩ := hf'
  rw [shownW, if_pos hf] at hX
  have HX := Lib.hid hX
  have g : decide ((n : Int) - 1 < 2) = false := by rw [decide_eq_false_iff_not]; omega
  obtain ⟨ad, x, rfl, _, hx, hc0⟩ := RdI.at_ H.out (k := 0) (by omega)
  obtain ⟨_, y, e1, _, hy, hc9⟩ := RdI.at_ H.out (k := n - 1) (by omega)
  injection e1 with e1; subst e1
  rw [show ad.add 0 = ad by cases ad; rfl] at hc0
  have g2 : ((n : Int) - 1).toNat = n - 1 := by omega
  have b1 : (x != e) = false := by rw [hx] at q1; injection q1 with q1; simp [q1]
  have b2 : (y != e) = false := by rw [hy] at q2; injection q2 with q2; simp [q2]
  obtain ⟨cs, hcs⟩ : ∃ cs, cellsW ws = cs := ⟨_, rfl⟩
  have HC := Lib.hid (show RdI w0 (some (ad.add 1)) (n - 2) cs by
    rw [← hcs, cellsW, hl]
    exact (RdI.drop (H.out) (k := 1) (by omega)).take (by omega))
  rw [hcs] at HX
  clear hx hy q1 q2 h hf hX hcs
  go_enter Try.func68, Try.ntmps68
  go_wp2_with fail
  go_quiet (fail)
  go_wp2_with fail
  obtain ⟨w1, hw1⟩ : ∃ w1, w0.drewN nq = w1 := ⟨_, rfl⟩
  obtain ⟨ao, hao⟩ : ∃ ao, (⟨ad.block, ad.off + 1, none⟩ : Addr) = ao := ⟨_, rfl⟩
  obtain ⟨m, hm⟩ : ∃ m, n - 1 - 1 = m := ⟨_, rfl⟩
  obtain ⟨c1, hc1⟩ : ∃ c1, c - 1 = c1 := ⟨_, rfl⟩
  have E1 := Lib.hid (show Below w.heap.size w w1 by rw [← hw1]; exact below_drewN E0.out nq)
  have KA1 := Lib.hid (show Blk w1 w.heap.size 99 #[.int .i64 s, .int .i64 e] by rw [← hw1]; exact KA.out.drewN nq)
  have KC1 := Lib.hid (show Blk w1 (w.heap.size + 1) 30 #[.int .i64 0, .slice none 0 0, .slice none 0 0] by rw [← hw1]; exact KC.out.drewN nq)
  have HC1 := Lib.hid (show RdI w1 (some ao) m cs by
    rw [← hw1, ← hm, ← hao, show n - 1 - 1 = n - 2 by omega]
    have := HC.out
    rw [Addr.add, if_neg (by omega)] at this
    exact this)
  have hmc : m ≤ c1 := by omega
  have hmn : m ≤ 100000 := by omega
  rw [hw1, hao, hm, hc1]
  clear k0 k1 hc0 hc9 hw0 hw1 hao hm hc1 HC E0 KA KC g g2 b1 b2 h3 H hl
  refine (indexShown_c s e (some ao) m c1 w.heap.size cs w1 KA1.out HC1.out (by omega)).mono ?_
  rintro e' w' ⟨rfl, rfl⟩
  have k0 : w1.cell? ⟨w.heap.size, 0, none⟩ = some (.int .i64 s) := KA1.out.cell 0
  have k1 : w1.cell? ⟨w.heap.size, 1, none⟩ = some (.int .i64 e) := KA1.out.cell 1
  have z0 : w1.cell? ⟨w.heap.size + 1, 0, none⟩ = some (.int .i64 0) := KC1.out.cell 0
  have z1 : w1.cell? ⟨w.heap.size + 1, 1, none⟩ = some (.slice none 0 0) := KC1.out.cell 1
  have z2 : w1.cell? ⟨w.heap.size + 1, 2, none⟩ = some (.slice none 0 0) := KC1.out.cell 2
  have f0 := KC1.out.frozen 0; have f1 := KC1.out.frozen 1; have f2 := KC1.out.frozen 2
  have HML := Lib.hid (show cs.length = m from HC1.out.len)
  rcases firstS_or (p := fun x => decide (s ≤ x)) cs 0 with hneg | ⟨k, x, hk, hx, hp⟩
  · rw [hneg] at HX ⊢
    have HXn := Lib.hid (show none = X by rw [← HX.out, confW, if_pos (by omega)])
    clear HX hneg
    go_wp2_with fail
    go_quiet (fail)
    go_wp2_with fail
    rw [← HXn.out]
    have E0 := Lib.hid (below_drewN E1.out nq); have KC := Lib.hid (KC1.out.drewN nq)
    obtain ⟨w9, hw9⟩ : ∃ w9, ((((w1.drewN nq).setCell ⟨w.heap.size + 1, 0, none⟩ (.int .i64 0)).setCell ⟨w.heap.size + 1, 1, none⟩ (.slice none 0 0)).setCell ⟨w.heap.size + 1, 2, none⟩ (.slice none 0 0)) = w9 := ⟨_, rfl⟩
    rw [hw9]
    have KZ : Blk w9 (w.heap.size + 1) 30 #[.int .i64 0, .slice none 0 0, .slice none 0 0] := by rw [← hw9]; exact (((KC.out.set_ 0 _).set_ 1 _).set_ 2 _)
    have BZ : Below w.heap.size w w9 := by rw [← hw9]; exact ((E0.out.setCell (by simp) _).setCell (by simp) _).setCell (by simp) _
    have y0 : w9.cell? ⟨w.heap.size + 1, 0, none⟩ = some (.int .i64 0) := KZ.cell 0
    have y1 : w9.cell? ⟨w.heap.size + 1, 1, none⟩ = some (.slice none 0 0) := KZ.cell 1
    have y2 : w9.cell? ⟨w.heap.size + 1, 2, none⟩ = some (.slice none 0 0) := KZ.cell 2
    clear hw9 KZ
    refine bodyPost_ret (v := .tuple #[.agg #[.int .i64 0, .slice none 0 0, .slice none 0 0], .bool false]) (by simp [results, Try.results68, go_sem, y0, y1, y2]) rfl ?_
    exact ⟨rfl, BZ⟩
  · rw [Nat.zero_add] at hk
    rw [hk] at HX ⊢
    have hkm : k < m := by have := (List.getElem?_eq_some_iff.1 hx).1; have := HML.out; omega
    obtain ⟨_, _, e1, _, hy, hcx⟩ := RdI.at_ HC1.out hkm
    injection e1 with e1; subst e1
    rw [hx] at hy; injection hy with hy; subst hy
    have HX2 := Lib.hid (show (if x < e ∧ allB 0 (s - 1) (cs.drop (k + 1)) = true then some (x - s, trimL (cs.take k).reverse, trimL (cs.drop (k + 1))) else none) = X by
      have h1 := HX.out
      rw [confW, if_neg (by omega), Int.toNat_natCast, hx, Option.getD_some] at h1
      exact h1)
    have hsx : s ≤ x := of_decide_eq_true hp
    clear HX hk hx hp
    have ng : decide ((k : Int) < 0) = false := by rw [decide_eq_false_iff_not]; omega
    have v1 : IntKind.i64.wrap (s - 1) = s - 1 := IntWalk.i64_in _ (by omega)
    by_cases hxe : x < e
    · have ge : decide (e ≤ x) = false := by rw [decide_eq_false_iff_not]; omega
      obtain ⟨b, hb⟩ : ∃ b, allB 0 (s - 1) (cs.drop (k + 1)) = b := ⟨_, rfl⟩
      have HBB := Lib.hid hb
      by_cases hkc : k + 1 = c1
      · have HR := Lib.hid (show RdI w1 (some ao) 0 (cs.drop (k + 1)) by
          rw [List.drop_eq_nil_of_le (by rw [HML.out]; omega)]; exact RdI.nil)
        have e1 : m - (k + 1) = 0 := by omega
        cases b
        · have HXn := Lib.hid (show none = X by rw [← HX2.out, if_neg (by rw [hb]; simp)])
          clear HX2 hb
          go_wp2_with fail
          go_quiet ((go_at_call 88; first | exact quiet_left (allWithin_b _ _ _ (cs.drop (k + 1)) 0 (s - 1) false HBB.out _ (by exact HR.out) (by omega)) | exact quiet_add_left (allWithin_b _ _ _ (cs.drop (k + 1)) 0 (s - 1) false HBB.out _ (by exact HR.out) (by omega))))
          go_wp2_with fail
          rw [← HXn.out]
          have E0 := Lib.hid (below_drewN E1.out nq); have KC := Lib.hid (KC1.out.drewN nq)
          obtain ⟨w9, hw9⟩ : ∃ w9, ((((w1.drewN nq).setCell ⟨w.heap.size + 1, 0, none⟩ (.int .i64 0)).setCell ⟨w.heap.size + 1, 1, none⟩ (.slice none 0 0)).setCell ⟨w.heap.size + 1, 2, none⟩ (.slice none 0 0)) = w9 := ⟨_, rfl⟩
          rw [hw9]
          have KZ : Blk w9 (w.heap.size + 1) 30 #[.int .i64 0, .slice none 0 0, .slice none 0 0] := by rw [← hw9]; exact (((KC.out.set_ 0 _).set_ 1 _).set_ 2 _)
          have BZ : Below w.heap.size w w9 := by rw [← hw9]; exact ((E0.out.setCell (by simp) _).setCell (by simp) _).setCell (by simp) _
          have y0 : w9.cell? ⟨w.heap.size + 1, 0, none⟩ = some (.int .i64 0) := KZ.cell 0
          have y1 : w9.cell? ⟨w.heap.size + 1, 1, none⟩ = some (.slice none 0 0) := KZ.cell 1
          have y2 : w9.cell? ⟨w.heap.size + 1, 2, none⟩ = some (.slice none 0 0) := KZ.cell 2
          clear hw9 KZ
          refine bodyPost_ret (v := .tuple #[.agg #[.int .i64 0, .slice none 0 0, .slice none 0 0], .bool false]) (by simp [results, Try.results68, go_sem, y0, y1, y2]) rfl ?_
          exact ⟨rfl, BZ⟩
        · have HXs := Lib.hid (show some (x - s, trimL (cs.take k).reverse, trimL (cs.drop (k + 1))) = X by rw [← HX2.out, if_pos ⟨hxe, hb⟩])
          clear HX2 hb
          go_wp2_with fail
          go_quiet ((go_at_call 88; first | exact quiet_left (allWithin_b _ _ _ (cs.drop (k + 1)) 0 (s - 1) true HBB.out _ (by exact HR.out) (by omega)) | exact quiet_add_left (allWithin_b _ _ _ (cs.drop (k + 1)) 0 (s - 1) true HBB.out _ (by exact HR.out) (by omega))))
          go_wp2_with fail
          obtain ⟨w2, hw2⟩ : ∃ w2, w1.drewN nq = w2 := ⟨_, rfl⟩
          have E2 := Lib.hid (show Below w.heap.size w w2 by rw [← hw2]; exact below_drewN E1.out nq)
          have KA2 := Lib.hid (show Blk w2 w.heap.size 99 #[.int .i64 s, .int .i64 e] by rw [← hw2]; exact KA1.out.drewN nq)
          have KC2 := Lib.hid (show Blk w2 (w.heap.size + 1) 30 #[.int .i64 0, .slice none 0 0, .slice none 0 0] by rw [← hw2]; exact KC1.out.drewN nq)
          have HL2 := Lib.hid (show RdI w2 (some ao) k (cs.take k) by rw [← hw2]; exact RdI.take HC1.out (by omega))
          have HR2 := Lib.hid (show RdI w2 (some ao) (0) (cs.drop (k + 1)) by rw [← hw2]; exact HR.out)
          have HCX := Lib.hid (show w2.cell? (ao.add k) = some (.int .i64 x) by rw [← hw2]; exact hcx)
          have hz2 : w.heap.size + 1 < w2.heap.size := KC2.out.lt
          rw [hw2]
          clear k0 k1 z0 z1 z2 f0 f1 f2 hcx hw2 KA1 KC1 HC1 HR E1 ge ng v1 HBB
          refine Mix.wp_region_mix [0, 0, 0, 1, 0, 0, 0, 0, 1, 0, 0] (fun w' => ∃ x : Ext w2, w' = x.w) (by kernel_rfl) (by kernel_rfl) (InExt.drew _) ?_
          repeat (first | (refine Mix.wpMix_read (by rfl) ?_; go_big_quiet_step (fail); refine wpQuiet_nil ?_) | (refine Mix.wpMix_pure (by rfl) ?_; go_big_quiet_step (fail); refine wpQuiet_nil ?_))
          refine Mix.wpMix_chg (by rfl) (fun K hK => ?_)
          go_wp2_with fail
          refine (reversedK_c (some ao) k c1 (cs.take k) _ (by exact HL2.out) (by omega)).mono ?_
          rintro e' w3 ⟨AL, cL, rfl, hcL, hwL, hbL⟩
          have E3 := Lib.hid (show Below w2.heap.size w2 w3 from below_of_drew hbL)
          have WL := Lib.hid (show Wr w3 w2.heap.size w3.heap.size AL k ((cs.take k).reverse.map i64) from hwL)
          have HR3 := Lib.hid (RdI.below HR2.out E3.out)
          clear hwL hbL
          go_wp2_with fail
          refine hK _ _ ⟨⟨_, E3.out⟩, rfl⟩ ?_
          clear hK K
          repeat (first | (refine Mix.wpMix_read (by rfl) ?_; go_big_quiet_step (fail); refine wpQuiet_nil ?_) | (refine Mix.wpMix_pure (by rfl) ?_; go_big_quiet_step (fail); refine wpQuiet_nil ?_))
          refine Mix.wpMix_chg (by rfl) (fun K hK => ?_)
          go_wp2_with fail
          refine (cloneK_c (some ao) (0) (0) (cs.drop (k + 1)) _ (by exact HR3.out) (by omega)).mono ?_
          rintro e' w4 ⟨AM, cM, rfl, hcM, hwM, hbM⟩
          have E4 := Lib.hid (show Below w2.heap.size w2 w4 from below_chain E3.out E3.out.size hbM)
          have WM := Lib.hid (show Wr w4 w3.heap.size w4.heap.size AM (0) ((cs.drop (k + 1)).map i64) from hwM)
          have WL4 := Lib.hid (WL.out.below hbM)
          have hz3 := E3.out.size; have hz4 := hbM.size
          clear hwM hbM WL
          go_wp2_with fail
          refine hK _ _ ⟨⟨_, E4.out⟩, rfl⟩ ?_
          clear hK K
          repeat (first | (refine Mix.wpMix_read (by rfl) ?_; go_big_quiet_step (fail); refine wpQuiet_nil ?_) | (refine Mix.wpMix_pure (by rfl) ?_; go_big_quiet_step (fail); refine wpQuiet_nil ?_))
          (refine Mix.wpMix_nil ?_; try simp only [Exit.then])
          have KA4 := Lib.hid (KA2.out.keep E4.out); have KC4 := Lib.hid (KC2.out.keep E4.out)
          have E5 := Lib.hid (below_chain E2.out E2.out.size E4.out)
          have RL := Lib.hid (show RdI w4 AL k (cs.take k).reverse from WL4.out.rdI)
          have RM := Lib.hid (show RdI w4 AM (0) (cs.drop (k + 1)) from WM.out.rdI)
          have x0 := Ext.cell (keepc E4.out HCX.out)
          have x1 := Ext.cell (KA4.out.cell 0)
          clear KA2 KC2 HL2 HR2 HR3 HCX
          have v2 : IntKind.i64.wrap (x - s) = x - s := IntWalk.i64_in _ (by omega)
          go_wp2_with fail
          refine Mix.wp_region_mix [0, 0, 0, 3, 0, 3, 0, 0, 1, 0, 1, 0, 2, 0] (fun w' => ∃ x : Ext w4, w' = x.w) (by kernel_rfl) (by kernel_rfl) (InExt.drew _) ?_
          repeat (first | (refine Mix.wpMix_read (by rfl) ?_; go_big_quiet_step (fail); refine wpQuiet_nil ?_) | (refine Mix.wpMix_pure (by rfl) ?_; go_big_quiet_step (fail); refine wpQuiet_nil ?_))
          refine Mix.wpMix_chg (by rfl) (fun K hK => ?_)
          go_wp2_with fail
          refine (trimmed_c AL k cL _ _ (by exact RL.out) (by omega) hcL).mono ?_
          rintro e' w' ⟨rfl, rfl⟩
          obtain ⟨ll, hll⟩ : ∃ ll, (trimL (cs.take k).reverse).length = ll := ⟨_, rfl⟩
          have HLL := Lib.hid hll
          rw [hll]
          have hlk : ll ≤ k := by have h1 := trimL_len (cs.take k).reverse; have h2 := List.length_take_le k cs; rw [List.length_reverse] at h1; omega
          clear hll
          go_wp2_with fail
          refine hK _ _ ⟨⟨_, below_drew below_size⟩, rfl⟩ ?_
          clear hK K
          repeat (first | (refine Mix.wpMix_read (by rfl) ?_; go_big_quiet_step (fail); refine wpQuiet_nil ?_) | (refine Mix.wpMix_pure (by rfl) ?_; go_big_quiet_step (fail); refine wpQuiet_nil ?_))
          refine Mix.wpMix_chg (by rfl) (fun K hK => ?_)
          go_wp2_with fail
          refine (trimmed_c AM (0) cM _ _ (by exact RM.out) (by omega) hcM).mono ?_
          rintro e' w' ⟨rfl, rfl⟩
          obtain ⟨lm, hlm⟩ : ∃ lm, (trimL (cs.drop (k + 1))).length = lm := ⟨_, rfl⟩
          have HLM := Lib.hid hlm
          rw [hlm]
          have hmk : lm ≤ 0 := by have h1 := trimL_len (cs.drop (k + 1)); have h2 := RM.out.len; omega
          clear hlm
          go_wp2_with fail
          refine hK _ _ ⟨⟨_, below_drew below_size⟩, rfl⟩ ?_
          clear hK K
          refine Mix.wpMix_build (by rfl) _ _ rfl (.agg #[.int .i64 (x - s), .slice AL ll cL, .slice AM lm cM]) (fun w => by simp [go_sem]) ?_
          simp only [Act.put, List.setIfInBounds_toArray, List.set_cons_succ, List.set_cons_zero]
          have z0 : w4.cell? ⟨w.heap.size + 1, 0, none⟩ = some (.int .i64 0) := KC4.out.cell 0
          have z1 : w4.cell? ⟨w.heap.size + 1, 1, none⟩ = some (.slice none 0 0) := KC4.out.cell 1
          have z2 : w4.cell? ⟨w.heap.size + 1, 2, none⟩ = some (.slice none 0 0) := KC4.out.cell 2
          have f0 := KC4.out.frozen 0; have f1 := KC4.out.frozen 1; have f2 := KC4.out.frozen 2
          refine Mix.wpMix_tail (by rfl) (fun K hK => ?_)
          go_wp2_with fail
          refine hK _ _ ?_
          clear hK K
          repeat (first | (refine Mix.wpMix_read (by rfl) ?_; go_big_quiet_step (fail); refine wpQuiet_nil ?_) | (refine Mix.wpMix_pure (by rfl) ?_; go_big_quiet_step (fail); refine wpQuiet_nil ?_))
          (refine Mix.wpMix_nil ?_; try simp only [Exit.then])
          obtain ⟨w9, hw9⟩ : ∃ w9, (((w4.setCell ⟨w.heap.size + 1, 0, none⟩ (.int .i64 (x - s))).setCell ⟨w.heap.size + 1, 1, none⟩ (.slice AL ll cL)).setCell ⟨w.heap.size + 1, 2, none⟩ (.slice AM lm cM)).drew = w9 := ⟨_, rfl⟩
          have KZ : Blk w9 (w.heap.size + 1) 30 #[.int .i64 (x - s), .slice AL ll cL, .slice AM lm cM] := by rw [← hw9]; exact (((KC4.out.set_ 0 _).set_ 1 _).set_ 2 _).drew
          have BZ : Below w.heap.size w w9 := by rw [← hw9]; exact below_drew (((E5.out.setCell (by simp) _).setCell (by simp) _).setCell (by simp) _)
          have t1 : Wr w4 w2.heap.size w3.heap.size AL ll ((trimL (cs.take k).reverse).map i64) := by
            have h1 := WL4.out.take hlk
            rw [← List.map_take, ← HLL.out, ← trimL_take, HLL.out] at h1; exact h1
          have t2 : Wr w4 w3.heap.size w4.heap.size AM lm ((trimL (cs.drop (k + 1))).map i64) := by
            have h1 := WM.out.take hmk
            rw [← List.map_take, ← HLM.out, ← trimL_take, HLM.out] at h1; exact h1
          have hz23 : w.heap.size + 1 < w3.heap.size := Nat.lt_of_lt_of_le hz2 hz3
          have hz02 : w.heap.size ≤ w2.heap.size := E2.out.size
          have hs9 : w9.heap.size = w4.heap.size := by rw [← hw9]; simp
          have WS : WrS w9 w.heap.size w9.heap.size ([sgI AL ll (trimL (cs.take k).reverse)] ++ [sgI AM lm (trimL (cs.drop (k + 1)))]) := by
            rw [hs9, ← hw9]
            have h1 := WrS.append (WrS.one (((t1.set_far (p := ⟨w.heap.size + 1, 0, none⟩) (.inl hz2) (.int .i64 (x - s))).set_far (p := ⟨w.heap.size + 1, 1, none⟩) (.inl hz2) (.slice AL ll cL)).set_far (p := ⟨w.heap.size + 1, 2, none⟩) (.inl hz2) (.slice AM lm cM))) (WrS.one (((t2.set_far (p := ⟨w.heap.size + 1, 0, none⟩) (.inl hz23) (.int .i64 (x - s))).set_far (p := ⟨w.heap.size + 1, 1, none⟩) (.inl hz23) (.slice AL ll cL)).set_far (p := ⟨w.heap.size + 1, 2, none⟩) (.inl hz23) (.slice AM lm cM))) hz3 hz4
            exact (h1.below (below_drew below_size)).wider hz02 (Nat.le_refl _)
          rw [hw9]
          have y0 : w9.cell? ⟨w.heap.size + 1, 0, none⟩ = some (.int .i64 (x - s)) := KZ.cell 0
          have y1 : w9.cell? ⟨w.heap.size + 1, 1, none⟩ = some (.slice AL ll cL) := KZ.cell 1
          have y2 : w9.cell? ⟨w.heap.size + 1, 2, none⟩ = some (.slice AM lm cM) := KZ.cell 2
          have FIN := Lib.hid (show ShOut X w (.returned (.tuple #[.agg #[.int .i64 (x - s), .slice AL ll cL, .slice AM lm cM], .bool true])) w9 by rw [← HXs.out]; exact ⟨AL, ll, cL, AM, lm, cM, rfl, WS, ⟨by omega, by omega⟩, HLL.out.symm, HLM.out.symm, BZ⟩)
          clear hw9 KZ BZ t1 t2 hs9 WS
          go_wp2_with fail
          refine bodyPost_ret (v := .tuple #[.agg #[.int .i64 (x - s), .slice AL ll cL, .slice AM lm cM], .bool true]) (by simp [results, Try.results68, go_sem, y0, y1, y2]) rfl ?_
          exact FIN.out
      · have HR := Lib.hid (show RdI w1 (some (ao.add (k + 1))) (m - (k + 1)) (cs.drop (k + 1)) from RdI.drop HC1.out (by omega))
        cases b
        · have HXn := Lib.hid (show none = X by rw [← HX2.out, if_neg (by rw [hb]; simp)])
          clear HX2 hb
          go_wp2_with fail
          go_quiet ((go_at_call 88; first | exact quiet_left (allWithin_b _ _ _ (cs.drop (k + 1)) 0 (s - 1) false HBB.out _ (by exact HR.out) (by omega)) | exact quiet_add_left (allWithin_b _ _ _ (cs.drop (k + 1)) 0 (s - 1) false HBB.out _ (by exact HR.out) (by omega))))
          go_wp2_with fail
          rw [← HXn.out]
          have E0 := Lib.hid (below_drewN E1.out nq); have KC := Lib.hid (KC1.out.drewN nq)
          obtain ⟨w9, hw9⟩ : ∃ w9, ((((w1.drewN nq).setCell ⟨w.heap.size + 1, 0, none⟩ (.int .i64 0)).setCell ⟨w.heap.size + 1, 1, none⟩ (.slice none 0 0)).setCell ⟨w.heap.size + 1, 2, none⟩ (.slice none 0 0)) = w9 := ⟨_, rfl⟩
          rw [hw9]
          have KZ : Blk w9 (w.heap.size + 1) 30 #[.int .i64 0, .slice none 0 0, .slice none 0 0] := by rw [← hw9]; exact (((KC.out.set_ 0 _).set_ 1 _).set_ 2 _)
          have BZ : Below w.heap.size w w9 := by rw [← hw9]; exact ((E0.out.setCell (by simp) _).setCell (by simp) _).setCell (by simp) _
          have y0 : w9.cell? ⟨w.heap.size + 1, 0, none⟩ = some (.int .i64 0) := KZ.cell 0
          have y1 : w9.cell? ⟨w.heap.size + 1, 1, none⟩ = some (.slice none 0 0) := KZ.cell 1
          have y2 : w9.cell? ⟨w.heap.size + 1, 2, none⟩ = some (.slice none 0 0) := KZ.cell 2
          clear hw9 KZ
          refine bodyPost_ret (v := .tuple #[.agg #[.int .i64 0, .slice none 0 0, .slice none 0 0], .bool false]) (by simp [results, Try.results68, go_sem, y0, y1, y2]) rfl ?_
          exact ⟨rfl, BZ⟩
        · have HXs := Lib.hid (show some (x - s, trimL (cs.take k).reverse, trimL (cs.drop (k + 1))) = X by rw [← HX2.out, if_pos ⟨hxe, hb⟩])
          clear HX2 hb
          go_wp2_with fail
          go_quiet ((go_at_call 88; first | exact quiet_left (allWithin_b _ _ _ (cs.drop (k + 1)) 0 (s - 1) true HBB.out _ (by exact HR.out) (by omega)) | exact quiet_add_left (allWithin_b _ _ _ (cs.drop (k + 1)) 0 (s - 1) true HBB.out _ (by exact HR.out) (by omega))))
          go_wp2_with fail
          obtain ⟨w2, hw2⟩ : ∃ w2, w1.drewN nq = w2 := ⟨_, rfl⟩
          have E2 := Lib.hid (show Below w.heap.size w w2 by rw [← hw2]; exact below_drewN E1.out nq)
          have KA2 := Lib.hid (show Blk w2 w.heap.size 99 #[.int .i64 s, .int .i64 e] by rw [← hw2]; exact KA1.out.drewN nq)
          have KC2 := Lib.hid (show Blk w2 (w.heap.size + 1) 30 #[.int .i64 0, .slice none 0 0, .slice none 0 0] by rw [← hw2]; exact KC1.out.drewN nq)
          have HL2 := Lib.hid (show RdI w2 (some ao) k (cs.take k) by rw [← hw2]; exact RdI.take HC1.out (by omega))
          have HR2 := Lib.hid (show RdI w2 (some (ao.add (k + 1))) (m - (k + 1)) (cs.drop (k + 1)) by rw [← hw2]; exact HR.out)
          have HCX := Lib.hid (show w2.cell? (ao.add k) = some (.int .i64 x) by rw [← hw2]; exact hcx)
          have hz2 : w.heap.size + 1 < w2.heap.size := KC2.out.lt
          rw [hw2]
          clear k0 k1 z0 z1 z2 f0 f1 f2 hcx hw2 KA1 KC1 HC1 HR E1 ge ng v1 HBB
          refine Mix.wp_region_mix [0, 0, 0, 1, 0, 0, 0, 0, 1, 0, 0] (fun w' => ∃ x : Ext w2, w' = x.w) (by kernel_rfl) (by kernel_rfl) (InExt.drew _) ?_
          repeat (first | (refine Mix.wpMix_read (by rfl) ?_; go_big_quiet_step (fail); refine wpQuiet_nil ?_) | (refine Mix.wpMix_pure (by rfl) ?_; go_big_quiet_step (fail); refine wpQuiet_nil ?_))
          refine Mix.wpMix_chg (by rfl) (fun K hK => ?_)
          go_wp2_with fail
          refine (reversedK_c (some ao) k c1 (cs.take k) _ (by exact HL2.out) (by omega)).mono ?_
          rintro e' w3 ⟨AL, cL, rfl, hcL, hwL, hbL⟩
          have E3 := Lib.hid (show Below w2.heap.size w2 w3 from below_of_drew hbL)
          have WL := Lib.hid (show Wr w3 w2.heap.size w3.heap.size AL k ((cs.take k).reverse.map i64) from hwL)
          have HR3 := Lib.hid (RdI.below HR2.out E3.out)
          clear hwL hbL
          go_wp2_with fail
          refine hK _ _ ⟨⟨_, E3.out⟩, rfl⟩ ?_
          clear hK K
          repeat (first | (refine Mix.wpMix_read (by rfl) ?_; go_big_quiet_step (fail); refine wpQuiet_nil ?_) | (refine Mix.wpMix_pure (by rfl) ?_; go_big_quiet_step (fail); refine wpQuiet_nil ?_))
          refine Mix.wpMix_chg (by rfl) (fun K hK => ?_)
          go_wp2_with fail
          refine (cloneK_c (some (ao.add (k + 1))) (m - (k + 1)) (c1 - (k + 1)) (cs.drop (k + 1)) _ (by exact HR3.out) (by omega)).mono ?_
          rintro e' w4 ⟨AM, cM, rfl, hcM, hwM, hbM⟩
          have E4 := Lib.hid (show Below w2.heap.size w2 w4 from below_chain E3.out E3.out.size hbM)
          have WM := Lib.hid (show Wr w4 w3.heap.size w4.heap.size AM (m - (k + 1)) ((cs.drop (k + 1)).map i64) from hwM)
          have WL4 := Lib.hid (WL.out.below hbM)
          have hz3 := E3.out.size; have hz4 := hbM.size
          clear hwM hbM WL
          go_wp2_with fail
          refine hK _ _ ⟨⟨_, E4.out⟩, rfl⟩ ?_
          clear hK K
          repeat (first | (refine Mix.wpMix_read (by rfl) ?_; go_big_quiet_step (fail); refine wpQuiet_nil ?_) | (refine Mix.wpMix_pure (by rfl) ?_; go_big_quiet_step (fail); refine wpQuiet_nil ?_))
          (refine Mix.wpMix_nil ?_; try simp only [Exit.then])
          have KA4 := Lib.hid (KA2.out.keep E4.out); have KC4 := Lib.hid (KC2.out.keep E4.out)
          have E5 := Lib.hid (below_chain E2.out E2.out.size E4.out)
          have RL := Lib.hid (show RdI w4 AL k (cs.take k).reverse from WL4.out.rdI)
          have RM := Lib.hid (show RdI w4 AM (m - (k + 1)) (cs.drop (k + 1)) from WM.out.rdI)
          have x0 := Ext.cell (keepc E4.out HCX.out)
          have x1 := Ext.cell (KA4.out.cell 0)
          clear KA2 KC2 HL2 HR2 HR3 HCX
          have v2 : IntKind.i64.wrap (x - s) = x - s := IntWalk.i64_in _ (by omega)
          go_wp2_with fail
          refine Mix.wp_region_mix [0, 0, 0, 3, 0, 3, 0, 0, 1, 0, 1, 0, 2, 0] (fun w' => ∃ x : Ext w4, w' = x.w) (by kernel_rfl) (by kernel_rfl) (InExt.drew _) ?_
          repeat (first | (refine Mix.wpMix_read (by rfl) ?_; go_big_quiet_step (fail); refine wpQuiet_nil ?_) | (refine Mix.wpMix_pure (by rfl) ?_; go_big_quiet_step (fail); refine wpQuiet_nil ?_))
          refine Mix.wpMix_chg (by rfl) (fun K hK => ?_)
          go_wp2_with fail
          refine (trimmed_c AL k cL _ _ (by exact RL.out) (by omega) hcL).mono ?_
          rintro e' w' ⟨rfl, rfl⟩
          obtain ⟨ll, hll⟩ : ∃ ll, (trimL (cs.take k).reverse).length = ll := ⟨_, rfl⟩
          have HLL := Lib.hid hll
          rw [hll]
          have hlk : ll ≤ k := by have h1 := trimL_len (cs.take k).reverse; have h2 := List.length_take_le k cs; rw [List.length_reverse] at h1; omega
          clear hll
          go_wp2_with fail
          refine hK _ _ ⟨⟨_, below_drew below_size⟩, rfl⟩ ?_
          clear hK K
          repeat (first | (refine Mix.wpMix_read (by rfl) ?_; go_big_quiet_step (fail); refine wpQuiet_nil ?_) | (refine Mix.wpMix_pure (by rfl) ?_; go_big_quiet_step (fail); refine wpQuiet_nil ?_))
          refine Mix.wpMix_chg (by rfl) (fun K hK => ?_)
          go_wp2_with fail
          refine (trimmed_c AM (m - (k + 1)) cM _ _ (by exact RM.out) (by omega) hcM).mono ?_
          rintro e' w' ⟨rfl, rfl⟩
          obtain ⟨lm, hlm⟩ : ∃ lm, (trimL (cs.drop (k + 1))).length = lm := ⟨_, rfl⟩
          have HLM := Lib.hid hlm
          rw [hlm]
          have hmk : lm ≤ m - (k + 1) := by have h1 := trimL_len (cs.drop (k + 1)); have h2 := RM.out.len; omega
          clear hlm
          go_wp2_with fail
          refine hK _ _ ⟨⟨_, below_drew below_size⟩, rfl⟩ ?_
          clear hK K
          refine Mix.wpMix_build (by rfl) _ _ rfl (.agg #[.int .i64 (x - s), .slice AL ll cL, .slice AM lm cM]) (fun w => by simp [go_sem]) ?_
          simp only [Act.put, List.setIfInBounds_toArray, List.set_cons_succ, List.set_cons_zero]
          have z0 : w4.cell? ⟨w.heap.size + 1, 0, none⟩ = some (.int .i64 0) := KC4.out.cell 0
          have z1 : w4.cell? ⟨w.heap.size + 1, 1, none⟩ = some (.slice none 0 0) := KC4.out.cell 1
          have z2 : w4.cell? ⟨w.heap.size + 1, 2, none⟩ = some (.slice none 0 0) := KC4.out.cell 2
          have f0 := KC4.out.frozen 0; have f1 := KC4.out.frozen 1; have f2 := KC4.out.frozen 2
          refine Mix.wpMix_tail (by rfl) (fun K hK => ?_)
          go_wp2_with fail
          refine hK _ _ ?_
          clear hK K
          repeat (first | (refine Mix.wpMix_read (by rfl) ?_; go_big_quiet_step (fail); refine wpQuiet_nil ?_) | (refine Mix.wpMix_pure (by rfl) ?_; go_big_quiet_step (fail); refine wpQuiet_nil ?_))
          (refine Mix.wpMix_nil ?_; try simp only [Exit.then])
          obtain ⟨w9, hw9⟩ : ∃ w9, (((w4.setCell ⟨w.heap.size + 1, 0, none⟩ (.int .i64 (x - s))).setCell ⟨w.heap.size + 1, 1, none⟩ (.slice AL ll cL)).setCell ⟨w.heap.size + 1, 2, none⟩ (.slice AM lm cM)).drew = w9 := ⟨_, rfl⟩
          have KZ : Blk w9 (w.heap.size + 1) 30 #[.int .i64 (x - s), .slice AL ll cL, .slice AM lm cM] := by rw [← hw9]; exact (((KC4.out.set_ 0 _).set_ 1 _).set_ 2 _).drew
          have BZ : Below w.heap.size w w9 := by rw [← hw9]; exact below_drew (((E5.out.setCell (by simp) _).setCell (by simp) _).setCell (by simp) _)
          have t1 : Wr w4 w2.heap.size w3.heap.size AL ll ((trimL (cs.take k).reverse).map i64) := by
            have h1 := WL4.out.take hlk
            rw [← List.map_take, ← HLL.out, ← trimL_take, HLL.out] at h1; exact h1
          have t2 : Wr w4 w3.heap.size w4.heap.size AM lm ((trimL (cs.drop (k + 1))).map i64) := by
            have h1 := WM.out.take hmk
            rw [← List.map_take, ← HLM.out, ← trimL_take, HLM.out] at h1; exact h1
          have hz23 : w.heap.size + 1 < w3.heap.size := Nat.lt_of_lt_of_le hz2 hz3
          have hz02 : w.heap.size ≤ w2.heap.size := E2.out.size
          have hs9 : w9.heap.size = w4.heap.size := by rw [← hw9]; simp
          have WS : WrS w9 w.heap.size w9.heap.size ([sgI AL ll (trimL (cs.take k).reverse)] ++ [sgI AM lm (trimL (cs.drop (k + 1)))]) := by
            rw [hs9, ← hw9]
            have h1 := WrS.append (WrS.one (((t1.set_far (p := ⟨w.heap.size + 1, 0, none⟩) (.inl hz2) (.int .i64 (x - s))).set_far (p := ⟨w.heap.size + 1, 1, none⟩) (.inl hz2) (.slice AL ll cL)).set_far (p := ⟨w.heap.size + 1, 2, none⟩) (.inl hz2) (.slice AM lm cM))) (WrS.one (((t2.set_far (p := ⟨w.heap.size + 1, 0, none⟩) (.inl hz23) (.int .i64 (x - s))).set_far (p := ⟨w.heap.size + 1, 1, none⟩) (.inl hz23) (.slice AL ll cL)).set_far (p := ⟨w.heap.size + 1, 2, none⟩) (.inl hz23) (.slice AM lm cM))) hz3 hz4
            exact (h1.below (below_drew below_size)).wider hz02 (Nat.le_refl _)
          rw [hw9]
          have y0 : w9.cell? ⟨w.heap.size + 1, 0, none⟩ = some (.int .i64 (x - s)) := KZ.cell 0
          have y1 : w9.cell? ⟨w.heap.size + 1, 1, none⟩ = some (.slice AL ll cL) := KZ.cell 1
          have y2 : w9.cell? ⟨w.heap.size + 1, 2, none⟩ = some (.slice AM lm cM) := KZ.cell 2
          have FIN := Lib.hid (show ShOut X w (.returned (.tuple #[.agg #[.int .i64 (x - s), .slice AL ll cL, .slice AM lm cM], .bool true])) w9 by rw [← HXs.out]; exact ⟨AL, ll, cL, AM, lm, cM, rfl, WS, ⟨by omega, by omega⟩, HLL.out.symm, HLM.out.symm, BZ⟩)
          clear hw9 KZ BZ t1 t2 hs9 WS
          go_wp2_with fail
          refine bodyPost_ret (v := .tuple #[.agg #[.int .i64 (x - s), .slice AL ll cL, .slice AM lm cM], .bool true]) (by simp [results, Try.results68, go_sem, y0, y1, y2]) rfl ?_
          exact FIN.out
    · have ge : decide (e ≤ x) = true := by rw [decide_eq_true_eq]; omega
      have HXn := Lib.hid (show none = X by rw [← HX2.out, if_neg (fun h => hxe h.1)])
      clear HX2 hxe hsx
      go_wp2_with fail
      go_quiet (fail)
      go_wp2_with fail
      rw [← HXn.out]
      have E0 := Lib.hid (below_drewN E1.out nq); have KC := Lib.hid (KC1.out.drewN nq)
      obtain ⟨w9, hw9⟩ : ∃ w9, ((((w1.drewN nq).setCell ⟨w.heap.size + 1, 0, none⟩ (.int .i64 0)).setCell ⟨w.heap.size + 1, 1, none⟩ (.slice none 0 0)).setCell ⟨w.heap.size + 1, 2, none⟩ (.slice none 0 0)) = w9 := ⟨_, rfl⟩
      rw [hw9]
      have KZ : Blk w9 (w.heap.size + 1) 30 #[.int .i64 0, .slice none 0 0, .slice none 0 0] := by rw [← hw9]; exact (((KC.out.set_ 0 _).set_ 1 _).set_ 2 _)
      have BZ : Below w.heap.size w w9 := by rw [← hw9]; exact ((E0.out.setCell (by simp) _).setCell (by simp) _).setCell (by simp) _
      have y0 : w9.cell? ⟨w.heap.size + 1, 0, none⟩ = some (.int .i64 0) := KZ.cell 0
      have y1 : w9.cell? ⟨w.heap.size + 1, 1, none⟩ = some (.slice none 0 0) := KZ.cell 1
      have y2 : w9.cell? ⟨w.heap.size + 1, 2, none⟩ = some (.slice none 0 0) := KZ.cell 2
      clear hw9 KZ
      refine bodyPost_ret (v := .tuple #[.agg #[.int .i64 0, .slice none 0 0, .slice none 0 0], .bool false]) (by simp [results, Try.results68, go_sem, y0, y1, y2]) rfl ?_
      exact ⟨rfl, BZ⟩
theorem shown_c (s e : Int) (A : Option Addr) (n c : Nat) (ws : List Int) (X : Option (Int × List Int × List Int)) (w : World) (h : RdI w A n ws) (hs : 2 ≤ s ∧ s ≤ 6) (he : s < e ∧ e ≤ 9) (hn : n ≤ 100000) (hnc : n ≤ c) (hX : shownW s e ws = X) :
    Calls Try.prog 68 #[.agg #[.int .i64 s, .int .i64 e], .slice A n c] w (ShOut X w) := by
  cases hf : frameB e ws
  · have : X = none := by rw [← hX, shownW, if_neg (by rw [hf]; simp)]
    subst this
    exact shown0_c s e A n c ws w h hs he hn hf
  · exact shownA_c s e A n c ws X w h hs he hn hnc hf hX

set_option maxHeartbeats 4000000 in
set_option maxRecDepth 100000 in
theorem replaced_c (ad : Addr) (n c a f : Nat) (ws : List Int) (TA : Option Addr) (tn tc : Nat) (ts R : List Int) (w : World) (h : RdI w (some ad) n ws) (ht : RdI w TA tn ts) (hn : n ≤ 1000) (hnc : n ≤ c) (htn : tn ≤ 1000) (haf : a + f ≤ n) (hR : ws.take a ++ (ts ++ ws.drop (a + f)) = R) :
    Calls Try.prog 100 #[.slice (some ad) n c, .int .i64 a, .int .i64 f, .slice TA tn tc] w fun e' w' => ∃ A c', e' = .returned (.slice A R.length c') ∧ Wr w' w.heap.size w'.heap.size A R.length (R.map i64) ∧ R.length ≤ c' ∧ Below w.heap.size w w' := by
  have hl := h.len; have htl := ht.len
  have hsz : R.length = a + tn + (n - (a + f)) := by rw [← hR]; simp; omega
  have HSZ := Lib.hid hsz
  clear hsz
  have HT := Lib.hid ht; have HRR := Lib.hid hR
  have HL := Lib.hid (RdI.take h (k := a) (by omega))
  by_cases hkc : a + f = c
  · have HR := Lib.hid (show RdI w (some ad) 0 (ws.drop (a + f)) by rw [List.drop_eq_nil_of_le (by omega)]; exact RdI.nil)
    have e0 : n - (a + f) = 0 := by omega
    clear h ht hR hl htl
    go_enter Try.func100, Try.ntmps100
    go_wp2_with fail
    refine Mix.wp_region_mix [0, 0, 0, 0, 0, 0, 0, 0, 0, 1, 1, 0] (fun w' => ∃ x : Ext w, w' = x.w) (by kernel_rfl) (by kernel_rfl) (InExt.drew _) ?_
    repeat (first | (refine Mix.wpMix_read (by rfl) ?_; go_big_quiet_step (fail); refine wpQuiet_nil ?_) | (refine Mix.wpMix_pure (by rfl) ?_; go_big_quiet_step (fail); refine wpQuiet_nil ?_))
    refine Mix.wpMix_chg (by rfl) (fun K hK => ?_)
    go_wp2_with fail
    obtain ⟨w2, hw2⟩ : ∃ w2, (w.alloc (.cells #[.slice (some ad) a c, .slice TA tn tc, .slice (some ad) (0) (0)] 25)).drew = w2 := ⟨_, rfl⟩
    rw [hw2]
    have E2 := Lib.hid (show Below w.heap.size w w2 by rw [← hw2]; exact below_drew (below_size.alloc (Nat.le_refl _) _))
    have G2 := Lib.hid (show Blk w2 w.heap.size 25 #[.slice (some ad) a c, .slice TA tn tc, .slice (some ad) (0) (0)] by rw [← hw2]; exact (Blk.new _ _ _).drew)
    have V2 := Lib.hid (rdV3 G2.out (RdI.below HL.out E2.out) (RdI.below HT.out E2.out) (RdI.below HR.out E2.out))
    clear hw2
    refine hK _ _ ⟨⟨_, E2.out⟩, rfl⟩ ?_
    clear hK K
    repeat (first | (refine Mix.wpMix_read (by rfl) ?_; go_big_quiet_step (fail); refine wpQuiet_nil ?_) | (refine Mix.wpMix_pure (by rfl) ?_; go_big_quiet_step (fail); refine wpQuiet_nil ?_))
    refine Mix.wpMix_chg (by rfl) (fun K hK => ?_)
    go_wp2_with fail
    refine (joined_c (some ⟨w.heap.size, 0, none⟩) 3 3 _ _ (by exact V2.out) (by omega) (by simp [sumV]; omega)).mono ?_
    rintro e' w4 ⟨A4, c4, rfl, hw4, hc4, hb4⟩
    have E4 := Lib.hid (below_chain E2.out E2.out.size hb4)
    have hs4 : sumV [⟨some ad, a, c, (ws.take a).map i64⟩, ⟨TA, tn, tc, ts.map i64⟩, ⟨(some ad), 0, 0, (ws.drop (a + f)).map i64⟩] = R.length := by rw [HSZ.out]; simp [sumV]; omega
    rw [hs4] at hw4 hc4 ⊢
    have L4 := Lib.hid (show Wr w4 w.heap.size w4.heap.size A4 R.length (R.map i64) by
      have h1 := hw4.wider E2.out.size (Nat.le_refl _)
      rw [Nat.mul_one] at h1
      have h2 : (List.flatMap ItV.vs [⟨some ad, a, c, (ws.take a).map i64⟩, ⟨TA, tn, tc, ts.map i64⟩, ⟨(some ad), 0, 0, (ws.drop (a + f)).map i64⟩]) = R.map i64 := by rw [← HRR.out]; simp [List.flatMap_cons]
      rw [h2] at h1; exact h1)
    clear hw4 hb4 hs4
    go_wp2_with fail
    refine hK _ _ ⟨⟨_, E4.out⟩, rfl⟩ ?_
    clear hK K
    repeat (first | (refine Mix.wpMix_read (by rfl) ?_; go_big_quiet_step (fail); refine wpQuiet_nil ?_) | (refine Mix.wpMix_pure (by rfl) ?_; go_big_quiet_step (fail); refine wpQuiet_nil ?_))
    (refine Mix.wpMix_nil ?_; try simp only [Exit.then])
    go_wp2_with fail
    go_ret
    exact ⟨_, _, rfl, L4.out, hc4, E4.out⟩
  · have HR := Lib.hid (RdI.drop h haf)
    clear h ht hR hl htl
    go_enter Try.func100, Try.ntmps100
    go_wp2_with fail
    refine Mix.wp_region_mix [0, 0, 0, 0, 0, 0, 0, 0, 0, 1, 1, 0] (fun w' => ∃ x : Ext w, w' = x.w) (by kernel_rfl) (by kernel_rfl) (InExt.drew _) ?_
    repeat (first | (refine Mix.wpMix_read (by rfl) ?_; go_big_quiet_step (fail); refine wpQuiet_nil ?_) | (refine Mix.wpMix_pure (by rfl) ?_; go_big_quiet_step (fail); refine wpQuiet_nil ?_))
    refine Mix.wpMix_chg (by rfl) (fun K hK => ?_)
    go_wp2_with fail
    obtain ⟨w2, hw2⟩ : ∃ w2, (w.alloc (.cells #[.slice (some ad) a c, .slice TA tn tc, .slice (some (ad.add (a + f))) (n - (a + f)) (c - (a + f))] 25)).drew = w2 := ⟨_, rfl⟩
    rw [hw2]
    have E2 := Lib.hid (show Below w.heap.size w w2 by rw [← hw2]; exact below_drew (below_size.alloc (Nat.le_refl _) _))
    have G2 := Lib.hid (show Blk w2 w.heap.size 25 #[.slice (some ad) a c, .slice TA tn tc, .slice (some (ad.add (a + f))) (n - (a + f)) (c - (a + f))] by rw [← hw2]; exact (Blk.new _ _ _).drew)
    have V2 := Lib.hid (rdV3 G2.out (RdI.below HL.out E2.out) (RdI.below HT.out E2.out) (RdI.below HR.out E2.out))
    clear hw2
    refine hK _ _ ⟨⟨_, E2.out⟩, rfl⟩ ?_
    clear hK K
    repeat (first | (refine Mix.wpMix_read (by rfl) ?_; go_big_quiet_step (fail); refine wpQuiet_nil ?_) | (refine Mix.wpMix_pure (by rfl) ?_; go_big_quiet_step (fail); refine wpQuiet_nil ?_))
    refine Mix.wpMix_chg (by rfl) (fun K hK => ?_)
    go_wp2_with fail
    refine (joined_c (some ⟨w.heap.size, 0, none⟩) 3 3 _ _ (by exact V2.out) (by omega) (by simp [sumV]; omega)).mono ?_
    rintro e' w4 ⟨A4, c4, rfl, hw4, hc4, hb4⟩
    have E4 := Lib.hid (below_chain E2.out E2.out.size hb4)
    have hs4 : sumV [⟨some ad, a, c, (ws.take a).map i64⟩, ⟨TA, tn, tc, ts.map i64⟩, ⟨(some (ad.add (a + f))), n - (a + f), c - (a + f), (ws.drop (a + f)).map i64⟩] = R.length := by rw [HSZ.out]; simp [sumV]; omega
    rw [hs4] at hw4 hc4 ⊢
    have L4 := Lib.hid (show Wr w4 w.heap.size w4.heap.size A4 R.length (R.map i64) by
      have h1 := hw4.wider E2.out.size (Nat.le_refl _)
      rw [Nat.mul_one] at h1
      have h2 : (List.flatMap ItV.vs [⟨some ad, a, c, (ws.take a).map i64⟩, ⟨TA, tn, tc, ts.map i64⟩, ⟨(some (ad.add (a + f))), n - (a + f), c - (a + f), (ws.drop (a + f)).map i64⟩]) = R.map i64 := by rw [← HRR.out]; simp [List.flatMap_cons]
      rw [h2] at h1; exact h1)
    clear hw4 hb4 hs4
    go_wp2_with fail
    refine hK _ _ ⟨⟨_, E4.out⟩, rfl⟩ ?_
    clear hK K
    repeat (first | (refine Mix.wpMix_read (by rfl) ?_; go_big_quiet_step (fail); refine wpQuiet_nil ?_) | (refine Mix.wpMix_pure (by rfl) ?_; go_big_quiet_step (fail); refine wpQuiet_nil ?_))
    (refine Mix.wpMix_nil ?_; try simp only [Exit.then])
    go_wp2_with fail
    go_ret
    exact ⟨_, _, rfl, L4.out, hc4, E4.out⟩
end Go.Proofs.Ytcbcjhfeidkeaaa
