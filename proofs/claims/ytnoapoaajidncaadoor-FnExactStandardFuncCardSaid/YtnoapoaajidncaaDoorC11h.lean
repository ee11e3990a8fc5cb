/-
  Reading functions: the reference's ReadFunc.
-/
import Derived.Test.YtnoapoaajidncaaDoorC11g
namespace Go.Proofs.YtnoapoaajidncaaDoor
open Go.RowKit
open FTr

/-- a function of the call's own, and a Bool -/
def FnOutB (R : List Nd3 × Bool) (w : World) (e : Ending) (w' : World) : Prop := ∃ A N cap, e = .returned (.tuple #[.slice A N cap, .bool R.2]) ∧ Wr w' w.heap.size w'.heap.size A (N * 3) (R.1.flatMap enc3) ∧ N ≤ 1000000 ∧ Below w.heap.size w w'
theorem FnOutB.bad {w w' : World} (h : Below w.heap.size w w') : FnOutB ([], false) w (.returned (.tuple #[.slice none 0 0, .bool false])) w' := ⟨none, 0, 0, rfl, Wr.nil, by omega, h⟩
noncomputable def rfS (s : List UInt8) : List Nd3 × Bool := match sfR s with
  | some f => (f, true)
  | none => ([], false)
theorem rfS_bad {s : List UInt8} (h : (pzE s 60 0).2.2 = false ∨ (pzE s 60 0).2.1 ≠ s.length ∨ validF (pzE s 60 0).1 = false ∨ txF (pzE s 60 0).1 ≠ s) : rfS s = ([], false) := by rw [rfS, sfR, if_pos h]
theorem rfS_good {s : List UInt8} (h : (pzE s 60 0).2.2 = true) (h1 : (pzE s 60 0).2.1 = s.length) (h2 : validF (pzE s 60 0).1 = true) (h3 : txF (pzE s 60 0).1 = s) : rfS s = ((pzE s 60 0).1, true) := by
  rw [rfS, sfR, if_neg]
  rintro (g | g | g | g)
  · rw [h] at g; cases g
  · exact g h1
  · rw [h2] at g; cases g
  · exact g h3
theorem bs_toListF (l : List UInt8) : (bs l).toList = l := ByteArray.toList_mk l
set_option maxHeartbeats 4000000 in
set_option maxRecDepth 100000 in
theorem l11Read_t (s : List UInt8) (w : World) (hs : s.length ≤ 1048576) : Calls Tryd.prog 12 #[.string (bs s)] w (FnOutB (rfS s) w) := by
  have hbd := pzE_bd s 60 0
  obtain ⟨⟨f, z, ok⟩, hr⟩ : ∃ r, pzE s 60 0 = r := ⟨_, rfl⟩
  obtain ⟨R, hR⟩ : ∃ R, rfS s = R := ⟨_, rfl⟩
  rw [hR]
  rw [hr] at hbd
  have b1 := hbd.len; have b2 := hbd.next
  simp only at b1 b2
  obtain ⟨n0, hn0⟩ : ∃ n, (bs s).size = n := ⟨_, rfl⟩
  have hln : s.length = n0 := by rw [← hn0, bs_size]
  rw [hln] at b2 hs
  have HLN := Lib.hid hln
  have HR := Lib.hid hR; have HRA := Lib.hid hr
  clear hR hr hbd hln
  have HP := Lib.hid (show ∀ (ki di : Int) (w : World), ki = 0 → di = 60 → Calls Tryd.prog 18 #[.string (bs s), .int .i64 ki, .int .i64 di] w (PzOut (f, z, ok) w) from fun ki di w h1 h2 => by
    subst h1; subst h2
    have := l11Parse_c s (by rw [HLN.out]; exact hs) 60 0 w (by omega) (by omega)
    rw [HRA.out] at this; exact this)
  go_enter Tryd.func12, Tryd.ntmps12
  go_wp2_with fail
  refine (HP.out _ _ _ (by omega) (by omega)).mono ?_
  rintro e w1 ⟨A, n, c, rfl, hw1, hc1, hb1⟩
  have W1 := Lib.hid hw1; have RD1 := Lib.hid (show Rd3 w1 A n f from hw1.rd); have B1 := Lib.hid hb1
  have hfl : f.length = n := RD1.out.len
  clear hw1 hb1
  cases ok
  · have HG := Lib.hid (show (([], false) : List Nd3 × Bool) = R by rw [← HR.out, rfS_bad (.inl (by rw [HRA.out]))])
    go_wp2_with fail
    go_ret2
    rw [← HG.out]
    exact FnOutB.bad B1.out
  by_cases hz : z = n0
  rotate_left
  · have HG := Lib.hid (show (([], false) : List Nd3 × Bool) = R by rw [← HR.out, rfS_bad (.inr (.inl (by rw [HRA.out, HLN.out]; exact hz)))])
    have g0 : ((z : Int) != (n0 : Int)) = true := by simp; omega
    clear hz
    go_wp2_with fail
    go_ret2
    rw [← HG.out]
    exact FnOutB.bad B1.out
  have g0 : ((z : Int) != (n0 : Int)) = false := by simp; omega
  have HZ := Lib.hid hz
  clear hz
  obtain ⟨q, hq⟩ : ∃ q, validF f = q := ⟨_, rfl⟩
  have HQ := Lib.hid hq
  cases q
  · have HG := Lib.hid (show (([], false) : List Nd3 × Bool) = R by rw [← HR.out, rfS_bad (.inr (.inr (.inl (by rw [HRA.out]; exact hq))))])
    clear hq
    go_wp2_with (first | (go_at_call 19; refine (l11Is_c A n c f false _ (by exact RD1.out) (by omega) HQ.out).mono ?_; rintro e w2 ⟨rfl, hb2⟩; have B2 := Lib.hid (below_chain B1.out B1.out.size hb2); clear hb2))
    go_ret2
    rw [← HG.out]
    exact FnOutB.bad B2.out
  obtain ⟨h60, t, ht, htf⟩ := validF_iff.1 hq
  have hpos := flat_pos t
  rw [← htf, hfl] at hpos
  obtain ⟨ad, rfl, _, _⟩ := RD1.out.2 (by omega)
  have htx : txF f = textT t := by rw [htf]; exact txF_flat ht (by rw [← htf]; exact h60)
  have HSH := Lib.hid (show ∀ (ki : Int) (w2 : World), ki = 0 → Rd3 w2 (some ad) n f → Calls Tryd.prog 20 #[.slice (some ad) n c, .int .i64 ki] w2 fun e w' => e = .returned (.string (bs (txF f))) ∧ Below w2.heap.size w2 w' from fun ki w2 hk h => by
    subst hk
    rw [htx]
    exact l11Show_c ad n c f (by omega) t ht (by rw [← htf]; exact h60) 0 [] w2 h (by rw [List.drop_zero, List.append_nil, htf]))
  clear ht htf htx h60
  have gl := bs_toListF s
  obtain ⟨p, hp⟩ : ∃ p, txF f = p := ⟨_, rfl⟩
  rw [hp] at HSH
  have gw := bs_toListF p
  by_cases hts : p = s
  · have HG := Lib.hid (show (f, true) = R by rw [← HR.out, rfS_good (by rw [HRA.out]) (by rw [HRA.out, HLN.out]; exact HZ.out) (by rw [HRA.out]; exact hq) (by rw [HRA.out, hp]; exact hts), HRA.out])
    have gt : (p == s) = true := by simp [hts]
    clear hts hp hq
    go_wp2_with (first
      | (go_at_call 19; refine (l11Is_c (some ad) n c f true _ (by exact RD1.out) (by omega) HQ.out).mono ?_; rintro e w2 ⟨rfl, hb2⟩; have B2 := Lib.hid hb2; clear hb2)
      | (go_at_call 20; refine (HSH.out _ _ (by omega) (by exact Rd3.below RD1.out B2.out)).mono ?_; rintro e w3 ⟨rfl, hb3⟩; have B3 := Lib.hid (below_chain B2.out B2.out.size hb3); clear hb3))
    go_ret2
    rw [← HG.out]
    exact ⟨some ad, n, c, rfl, (W1.out.below B3.out).wider (Nat.le_refl _) B3.out.size, by omega, below_chain B1.out B1.out.size B3.out⟩
  · have HG := Lib.hid (show (([], false) : List Nd3 × Bool) = R by rw [← HR.out, rfS_bad (.inr (.inr (.inr (by rw [HRA.out, hp]; exact hts))))])
    have gt : (p == s) = false := by rw [beq_eq_false_iff_ne]; exact hts
    clear hts hp hq
    go_wp2_with (first
      | (go_at_call 19; refine (l11Is_c (some ad) n c f true _ (by exact RD1.out) (by omega) HQ.out).mono ?_; rintro e w2 ⟨rfl, hb2⟩; have B2 := Lib.hid hb2; clear hb2)
      | (go_at_call 20; refine (HSH.out _ _ (by omega) (by exact Rd3.below RD1.out B2.out)).mono ?_; rintro e w3 ⟨rfl, hb3⟩; have B3 := Lib.hid (below_chain B2.out B2.out.size hb3); clear hb3))
    go_ret2
    rw [← HG.out]
    exact FnOutB.bad (below_chain B1.out B1.out.size B3.out)
theorem sReadFunc_t (s : List UInt8) (w : World) (hs : s.length ≤ 1048576) : Calls Tryd.prog 5 #[.string (bs s)] w (FnOutB (rfS s) w) := by
  have HC := Lib.hid (l11Read_t s w hs)
  obtain ⟨R, hR⟩ : ∃ R, rfS s = R := ⟨_, rfl⟩
  rw [hR] at HC ⊢
  clear hR
  go_enter Tryd.func5, Tryd.ntmps5
  go_wp2_with (first | (go_at_call 12; refine (HC.out).mono ?_; rintro e w1 ⟨A, n, c, rfl, hw1, hn1, hb1⟩))
  go_ret2
  exact ⟨A, n, c, rfl, hw1, hn1, hb1⟩
end Go.Proofs.YtnoapoaajidncaaDoor
