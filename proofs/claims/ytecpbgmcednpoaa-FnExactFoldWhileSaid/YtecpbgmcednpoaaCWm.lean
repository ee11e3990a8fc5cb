/-
  Contracts of chapter 22: a simplified expression of the reference.
-/
import Derived.Test.YtecpbgmcednpoaaCWl
import Derived.Test.YtecpbgmcednpoaaCWb
namespace Go.Proofs.Ytecpbgmcednpoaa
open Go.RowKit

/-- an expression that a call hands back to be read -/
def SimOut (F : List (Int × Int)) (w : World) (e : Ending) (w' : World) : Prop := ∃ A m c, e = .returned (.slice A m c) ∧ Rd2 w' A m F ∧ m ≤ c ∧ Below w.heap.size w w'
theorem add_zero' (ad : Addr) : ad.add 0 = ad := by unfold Addr.add; simp
theorem Rd2.first {w : World} {A : Option Addr} {n : Nat} {x : Int × Int} {l : List (Int × Int)} (h : Rd2 w A n (x :: l)) : ∃ ad, A = some ad ∧ ad.block < w.heap.size ∧ w.cell? ad = some (i64 x.1) ∧ w.cell? ⟨ad.block, ad.off + 1, none⟩ = some (i64 x.2) := by
  have hl := h.len
  obtain ⟨ad, y, e, hb, hy, h0, h1⟩ := h.at_ (k := 0) (by rw [← hl]; simp)
  simp at hy
  subst hy
  rw [show 0 * 2 = 0 from rfl, add_zero'] at h0 h1
  exact ⟨ad, e, hb, h0, h1⟩
theorem Rd2.behind {w : World} {ad : Addr} {n : Nat} {x : Int × Int} {l : List (Int × Int)} (h : Rd2 w (some ad) n (x :: l)) : Rd2 w (some ⟨ad.block, ad.off + 2, none⟩) (n - 1) l := by
  have hl := h.len
  simp at hl
  have := h.part 1 (n - 1) (by omega)
  rw [List.drop_succ_cons, List.drop_zero, List.take_of_length_le (by omega), show ad.add (1 * 2) = ⟨ad.block, ad.off + 2, none⟩ from by unfold Addr.add; simp] at this
  exact this
theorem pickE_head (v vy : Int) (b : List (Int × Int)) : pickE (3, v) ((2, vy) :: b) = b.take (endM b) := by simp [pickE]
theorem pickE_tail (v vy : Int) (b : List (Int × Int)) : pickE (4, v) ((2, vy) :: b) = b.drop (endM b) := by simp [pickE]
theorem rd_newE {w : World} {t : TypeId} {m : Nat} (xs : List (Int × Int)) (cs : Array Value) (h : cs.toList = xs.flatMap enc2) (hm : xs.length = m) : Rd2 (w.alloc (.cells cs t)) (some ⟨w.heap.size, 0, none⟩) m xs := by
  have hs : cs.size = m * 2 := by rw [← Array.length_toList, h, flatX_len enc2 2 enc2_len, hm]
  exact (Blk.new w t cs).rd (by rw [h]; exact List.take_of_length_le (by rw [← h, Array.length_toList, hs]; exact Nat.le_refl _)) (by omega)
set_option maxHeartbeats 4000000 in
set_option maxRecDepth 100000 in
set_option maxHeartbeats 1000000 in
theorem l22Simple_c (N : Nat) : ∀ (A : Option Addr) (n cp : Nat) (e : List (Int × Int)) (w : World), Rd2 w A n e → n ≤ cp → n ≤ N → N ≤ 40 → isE e → Calls Try.prog 39 #[.slice A n cp] w (SimOut (foldK N e) w) := by
  induction N with
  | zero => intro A n cp e w h hcp hn hN he; have := isE_pos he; rw [h.len] at this; omega
  | succ N IH =>
    intro A n cp e w h hcp hn hN he
    obtain ⟨⟨t, v⟩, l, rfl⟩ := isE_ne he
    have hnl := h.len
    rw [List.length_cons] at hnl
    obtain ⟨ad, rfl, hab, hc0, hc1⟩ := h.first
    simp only at hc0 hc1
    obtain ⟨F, hF⟩ : ∃ F, foldK (N + 1) ((t, v) :: l) = F := ⟨_, rfl⟩
    rw [hF]
    have HIH := Lib.hid IH; have H := Lib.hid h; have HE := Lib.hid he; have HF := Lib.hid hF
    have HB := Lib.hid h.behind
    have HNL := Lib.hid hnl
    clear IH h he hF
    have hn0 : 0 < n := by omega
    by_cases h3 : t = 3
    · subst h3
      have hel := (isE_un (many_un.2 (.inl rfl))).1 HE.out
      have hl1 := isE_pos hel
      obtain ⟨hok1, hok2⟩ := foldK_ok N l hel (by omega)
      obtain ⟨a, ha⟩ : ∃ a, foldK N l = a := ⟨_, rfl⟩
      rw [ha] at hok1 hok2
      have HA := Lib.hid ha; have HEL := Lib.hid hel; have HOK := Lib.hid hok1
      have hn1 : 1 < n := by omega
      have hcp1 : 1 < cp := by omega
      clear ha hel hok1 hnl
      go_enter Try.func39, Try.ntmps39
      go_wp2_with fail
      refine (HIH.out (some ⟨ad.block, ad.off + 2, none⟩) (n - 1) (cp - 1) l w HB.out (by omega) (by omega) (by omega) HEL.out).mono ?_
      rw [HA.out]
      rintro e w1 ⟨A1, m1, c1, rfl, hr1, hm1, hb1⟩
      obtain ⟨⟨ty, vy⟩, b, rfl⟩ := isE_ne HOK.out
      have hml := hr1.len
      rw [List.length_cons] at hml hok2
      obtain ⟨a1, rfl, hab1, hd0, hd1⟩ := hr1.first
      simp only at hd0 hd1
      have HM := Lib.hid hml; have B1 := Lib.hid hb1; have R1 := Lib.hid hr1
      have hm0 : 0 < m1 := by omega
      have hm40 : m1 ≤ 40 := by have := HNL.out; omega
      have HFF := Lib.hid (show pickE (3, v) ((ty, vy) :: b) = F by rw [← HF.out, foldK_un (.inl rfl), HA.out])
      have hw0 := keepc hb1 hc0
      have hw1 := keepc hb1 hc1
      clear hml hb1 hr1 hc0 hc1
      by_cases hy0 : ty = 0
      · subst hy0
        have HG := Lib.hid (show ((0, vy) :: b) = F by rw [← HFF.out, pickE, if_pos rfl])
        go_wp2_with fail
        go_ret
        rw [← HG.out]
        exact ⟨_, _, _, rfl, R1.out, hm1, B1.out⟩
      have gy0 : (ty == 0) = false := by simpa using hy0
      by_cases hy2 : ty = 2
      · subst hy2
        obtain ⟨he1, he2, he3, _, _⟩ := isE_two HOK.out (many_two.2 (.inl rfl))
        obtain ⟨p, hp⟩ : ∃ p, endM b = p := ⟨_, rfl⟩
        have HP := Lib.hid hp
        rw [hp] at he1 he2 he3
        have hz1 : 1 + p < m1 := by have := HM.out; omega
        have hc11 : 1 < c1 := by omega
        have hc12 : 1 + p < c1 := by omega
        have HX := Lib.hid he1
        clear he1 hp
        go_wp2_with (go_at_call 55; refine (l22End_c (some a1) m1 c1 ((2, vy) :: b) 1 p (1 + p) _ R1.out (by omega) HX.out rfl).mono ?_; rintro e w2 ⟨rfl, rfl⟩)
        go_ret
        rw [← HFF.out]
        rw [pickE_head, HP.out]
        refine ⟨_, _, _, rfl, ?_, ?_, B1.out⟩
        · rw [show 1 + p - 1 = p by omega]; exact R1.out.behind.upto p (by omega)
        · omega
      · have gy2 : (ty == 2) = false := by simpa using hy2
        have HG := Lib.hid (show (3, v) :: (ty, vy) :: b = F by rw [← HFF.out, pickE, if_neg hy0, if_neg hy2])
        have RA := Lib.hid (show ∀ o, Rd2 (w1.alloc o) (some a1) m1 ((ty, vy) :: b) from fun o => R1.out.alloc o)
        go_wp2_with (at_builtin; refine wp_appExpr (by rfl) _ _ (by rfl) w1.heap.size (some ⟨w1.heap.size, 0, none⟩) 1 1 ([((3 : Int), v)].flatMap enc2) (by rfl) (by exact Own.fullK (Nat.le_refl _) rfl rfl (by omega)) (some a1) m1 c1 ((ty, vy) :: b) (by rfl) (by exact RA.out _) (by omega) (by simp) ?_; intro A3 c3 w3 own3 hb3 hk3 hg3 hz3)
        rw [← List.flatMap_append] at own3
        have hcap := own3.cap
        have O3 := Lib.hid own3; have B3 := Lib.hid ((below_size.alloc (Nat.le_refl _) _).trans hb3)
        clear own3 hb3 hk3 hg3 hz3
        go_wp2_with fail
        go_ret
        rw [← HG.out]
        exact ⟨_, _, _, rfl, O3.out.wrK.rd, hcap, below_chain B1.out B1.out.size B3.out⟩
    have g3 : (t == 3) = false := by simpa using h3
    by_cases h4 : t = 4
    · subst h4
      have hel := (isE_un (many_un.2 (.inr rfl))).1 HE.out
      have hl1 := isE_pos hel
      obtain ⟨hok1, hok2⟩ := foldK_ok N l hel (by omega)
      obtain ⟨a, ha⟩ : ∃ a, foldK N l = a := ⟨_, rfl⟩
      rw [ha] at hok1 hok2
      have HA := Lib.hid ha; have HEL := Lib.hid hel; have HOK := Lib.hid hok1
      have hn1 : 1 < n := by omega
      have hcp1 : 1 < cp := by omega
      clear ha hel hok1 hnl
      go_enter Try.func39, Try.ntmps39
      go_wp2_with fail
      refine (HIH.out (some ⟨ad.block, ad.off + 2, none⟩) (n - 1) (cp - 1) l w HB.out (by omega) (by omega) (by omega) HEL.out).mono ?_
      rw [HA.out]
      rintro e w1 ⟨A1, m1, c1, rfl, hr1, hm1, hb1⟩
      obtain ⟨⟨ty, vy⟩, b, rfl⟩ := isE_ne HOK.out
      have hml := hr1.len
      rw [List.length_cons] at hml hok2
      obtain ⟨a1, rfl, hab1, hd0, hd1⟩ := hr1.first
      simp only at hd0 hd1
      have HM := Lib.hid hml; have B1 := Lib.hid hb1; have R1 := Lib.hid hr1
      have hm0 : 0 < m1 := by omega
      have hm40 : m1 ≤ 40 := by have := HNL.out; omega
      have HFF := Lib.hid (show pickE (4, v) ((ty, vy) :: b) = F by rw [← HF.out, foldK_un (.inr rfl), HA.out])
      have hw0 := keepc hb1 hc0
      have hw1 := keepc hb1 hc1
      clear hml hb1 hr1 hc0 hc1
      by_cases hy0 : ty = 0
      · subst hy0
        have HG := Lib.hid (show ((0, vy) :: b) = F by rw [← HFF.out, pickE, if_pos rfl])
        go_wp2_with fail
        go_ret
        rw [← HG.out]
        exact ⟨_, _, _, rfl, R1.out, hm1, B1.out⟩
      have gy0 : (ty == 0) = false := by simpa using hy0
      by_cases hy2 : ty = 2
      · subst hy2
        obtain ⟨he1, he2, he3, _, _⟩ := isE_two HOK.out (many_two.2 (.inl rfl))
        obtain ⟨p, hp⟩ : ∃ p, endM b = p := ⟨_, rfl⟩
        have HP := Lib.hid hp
        rw [hp] at he1 he2 he3
        have hz1 : 1 + p < m1 := by have := HM.out; omega
        have hc11 : 1 < c1 := by omega
        have hc12 : 1 + p < c1 := by omega
        have HX := Lib.hid he1
        clear he1 hp
        go_wp2_with (go_at_call 55; refine (l22End_c (some a1) m1 c1 ((2, vy) :: b) 1 p (1 + p) _ R1.out (by omega) HX.out rfl).mono ?_; rintro e w2 ⟨rfl, rfl⟩)
        go_ret
        rw [← HFF.out]
        rw [pickE_tail, HP.out]
        have h1 := R1.out.part (1 + p) (m1 - (1 + p)) (by omega)
        rw [Nat.add_comm 1 p, List.drop_succ_cons, List.take_of_length_le (by rw [List.length_drop]; have := HM.out; omega)] at h1
        refine ⟨_, _, _, rfl, ?_, ?_, B1.out⟩
        · rw [Nat.add_comm 1 p]; exact h1
        · omega
      · have gy2 : (ty == 2) = false := by simpa using hy2
        have HG := Lib.hid (show (4, v) :: (ty, vy) :: b = F by rw [← HFF.out, pickE, if_neg hy0, if_neg hy2])
        have RA := Lib.hid (show ∀ o, Rd2 (w1.alloc o) (some a1) m1 ((ty, vy) :: b) from fun o => R1.out.alloc o)
        go_wp2_with (at_builtin; refine wp_appExpr (by rfl) _ _ (by rfl) w1.heap.size (some ⟨w1.heap.size, 0, none⟩) 1 1 ([((4 : Int), v)].flatMap enc2) (by rfl) (by exact Own.fullK (Nat.le_refl _) rfl rfl (by omega)) (some a1) m1 c1 ((ty, vy) :: b) (by rfl) (by exact RA.out _) (by omega) (by simp) ?_; intro A3 c3 w3 own3 hb3 hk3 hg3 hz3)
        rw [← List.flatMap_append] at own3
        have hcap := own3.cap
        have O3 := Lib.hid own3; have B3 := Lib.hid ((below_size.alloc (Nat.le_refl _) _).trans hb3)
        clear own3 hb3 hk3 hg3 hz3
        go_wp2_with fail
        go_ret
        rw [← HG.out]
        exact ⟨_, _, _, rfl, O3.out.wrK.rd, hcap, below_chain B1.out B1.out.size B3.out⟩
    have g4 : (t == 4) = false := by simpa using h4
    by_cases h2 : t = 2
    · subst h2
      obtain ⟨he1, he2, he3, he4, he5⟩ := isE_two HE.out (many_two.2 (.inl rfl))
      obtain ⟨p, hp⟩ : ∃ p, endM l = p := ⟨_, rfl⟩
      rw [hp] at he1 he2 he3 he4 he5
      have l1 : (l.take p).length = p := by rw [List.length_take]; omega
      have l2 : (l.drop p).length = l.length - p := List.length_drop
      obtain ⟨oka1, oka2⟩ := foldK_ok N _ he4 (by omega)
      obtain ⟨okb1, okb2⟩ := foldK_ok N _ he5 (by omega)
      obtain ⟨a, ha⟩ : ∃ a, foldK N (l.take p) = a := ⟨_, rfl⟩
      obtain ⟨b, hb⟩ : ∃ b, foldK N (l.drop p) = b := ⟨_, rfl⟩
      rw [ha] at oka1 oka2; rw [hb] at okb1 okb2
      have HA := Lib.hid ha; have HBB := Lib.hid hb; have HE4 := Lib.hid he4; have HE5 := Lib.hid he5; have HX := Lib.hid he1
      have HFF := Lib.hid (show pairE (2, v) a b = F by rw [← HF.out, foldK_two (.inl rfl), hp, ha, hb])
      have hn1 : 1 < n := by omega
      have hn2 : 1 + p < n := by omega
      have hcp1 : 1 < cp := by omega
      have hcp2 : 1 + p < cp := by omega
      have RA := Lib.hid (show Rd2 w (some ⟨ad.block, ad.off + 2, none⟩) p (l.take p) from HB.out.upto p (by omega))
      have RB := Lib.hid (show Rd2 w (some (ad.add ((1 + p) * 2))) (n - (1 + p)) (l.drop p) by
        have h1 := H.out.part (1 + p) (n - (1 + p)) (by omega)
        rw [Nat.add_comm 1 p, List.drop_succ_cons, List.take_of_length_le (by rw [List.length_drop]; omega)] at h1
        rw [Nat.add_comm 1 p]; exact h1)
      have hnb := hnl
      clear ha hb he1 he4 he5 hp hnl
      go_enter Try.func39, Try.ntmps39
      go_wp2_with (go_at_call 55; refine (l22End_c (some ad) n cp ((2, v) :: l) 1 p (1 + p) _ H.out (by omega) HX.out rfl).mono ?_; rintro e w2 ⟨rfl, rfl⟩)
      refine (HIH.out (some ⟨ad.block, ad.off + 2, none⟩) p (cp - 1) (l.take p) w RA.out (by omega) (by omega) (by omega) HE4.out).mono ?_
      rw [HA.out]
      rintro e w1 ⟨A1, m1, c1, rfl, hr1, hm1, hb1⟩
      have R1 := Lib.hid hr1; have B1 := Lib.hid hb1
      have hml1 := hr1.len
      clear hr1 hb1
      go_wp2_with fail
      refine (HIH.out (some (ad.add ((1 + p) * 2))) (n - (1 + p)) (cp - (1 + p)) (l.drop p) w1 (RB.out.below B1.out) (by omega) (by omega) (by omega) HE5.out).mono ?_
      rw [HBB.out]
      rintro e w2 ⟨A2, m2, c2, rfl, hr2, hm2, hb2⟩
      have R1 := Lib.hid (R1.out.below hb2); have R2 := Lib.hid hr2; have B2 := Lib.hid (below_chain B1.out B1.out.size hb2)
      have hml2 := hr2.len
      have hw0 := keepc B2.out hc0
      have hw1 := keepc B2.out hc1
      clear hr2 hb2 hc0 hc1
      have HG := Lib.hid (show (2, v) :: (a ++ b) = F by rw [← HFF.out, pairE, if_neg (by simp)])
      have RX := Lib.hid (show ∀ o, Rd2 (w2.alloc o) A1 m1 a from fun o => (R1.out).alloc o)
      go_wp2_with (first
        | fail
        | (at_builtin; refine wp_appExpr (by rfl) _ _ (by rfl) w2.heap.size (some ⟨w2.heap.size, 0, none⟩) 1 1 ([((2 : Int), v)].flatMap enc2) (by rfl) (by exact Own.fullK (Nat.le_refl _) rfl rfl (by omega)) A1 m1 c1 a (by rfl) (by exact RX.out _) (by omega) (by simp) ?_; intro A3 c3 w3 own3 hb3 hk3 hg3 hz3; have B3 := Lib.hid ((below_size.alloc (Nat.le_refl _) (.cells #[i64 2, i64 v] 49)).trans hb3); have hz3 := B3.out.size)
        | (at_builtin; refine wp_appExpr (by rfl) _ _ (by rfl) w2.heap.size A3 (1 + m1) c3 ([((2 : Int), v)].flatMap enc2 ++ a.flatMap enc2) (by rfl) (by exact own3) A2 m2 c2 b (by rfl) (by exact R2.out.below B3.out) (by omega) (by exact hz3) ?_; intro A4 c4 w4 own4 hb4 hk4 hg4 hz4))
      have hcap := own4.cap
      rw [← List.flatMap_append, ← List.flatMap_append] at own4
      have O4 := Lib.hid own4; have B4 := Lib.hid (B3.out.trans hb4)
      clear own4 hb4 hk4 hg4 hz4
      go_wp2_with fail
      go_ret
      rw [← HG.out]
      exact ⟨_, _, _, rfl, O4.out.wrK.rd, hcap, below_chain B2.out B2.out.size B4.out⟩
    have g2 : (t == 2) = false := by simpa using h2
    by_cases h5 : t = 5
    · subst h5
      obtain ⟨he1, he2, he3, he4, he5⟩ := isE_two HE.out (many_two.2 (.inr rfl))
      obtain ⟨p, hp⟩ : ∃ p, endM l = p := ⟨_, rfl⟩
      rw [hp] at he1 he2 he3 he4 he5
      have l1 : (l.take p).length = p := by rw [List.length_take]; omega
      have l2 : (l.drop p).length = l.length - p := List.length_drop
      obtain ⟨oka1, oka2⟩ := foldK_ok N _ he4 (by omega)
      obtain ⟨okb1, okb2⟩ := foldK_ok N _ he5 (by omega)
      obtain ⟨a, ha⟩ : ∃ a, foldK N (l.take p) = a := ⟨_, rfl⟩
      obtain ⟨b, hb⟩ : ∃ b, foldK N (l.drop p) = b := ⟨_, rfl⟩
      rw [ha] at oka1 oka2; rw [hb] at okb1 okb2
      have HA := Lib.hid ha; have HBB := Lib.hid hb; have HE4 := Lib.hid he4; have HE5 := Lib.hid he5; have HX := Lib.hid he1
      have HFF := Lib.hid (show pairE (5, v) a b = F by rw [← HF.out, foldK_two (.inr rfl), hp, ha, hb])
      have hn1 : 1 < n := by omega
      have hn2 : 1 + p < n := by omega
      have hcp1 : 1 < cp := by omega
      have hcp2 : 1 + p < cp := by omega
      have RA := Lib.hid (show Rd2 w (some ⟨ad.block, ad.off + 2, none⟩) p (l.take p) from HB.out.upto p (by omega))
      have RB := Lib.hid (show Rd2 w (some (ad.add ((1 + p) * 2))) (n - (1 + p)) (l.drop p) by
        have h1 := H.out.part (1 + p) (n - (1 + p)) (by omega)
        rw [Nat.add_comm 1 p, List.drop_succ_cons, List.take_of_length_le (by rw [List.length_drop]; omega)] at h1
        rw [Nat.add_comm 1 p]; exact h1)
      have hnb := hnl
      clear ha hb he1 he4 he5 hp hnl
      go_enter Try.func39, Try.ntmps39
      go_wp2_with (go_at_call 55; refine (l22End_c (some ad) n cp ((5, v) :: l) 1 p (1 + p) _ H.out (by omega) HX.out rfl).mono ?_; rintro e w2 ⟨rfl, rfl⟩)
      refine (HIH.out (some ⟨ad.block, ad.off + 2, none⟩) p (cp - 1) (l.take p) w RA.out (by omega) (by omega) (by omega) HE4.out).mono ?_
      rw [HA.out]
      rintro e w1 ⟨A1, m1, c1, rfl, hr1, hm1, hb1⟩
      have R1 := Lib.hid hr1; have B1 := Lib.hid hb1
      have hml1 := hr1.len
      clear hr1 hb1
      go_wp2_with fail
      refine (HIH.out (some (ad.add ((1 + p) * 2))) (n - (1 + p)) (cp - (1 + p)) (l.drop p) w1 (RB.out.below B1.out) (by omega) (by omega) (by omega) HE5.out).mono ?_
      rw [HBB.out]
      rintro e w2 ⟨A2, m2, c2, rfl, hr2, hm2, hb2⟩
      have R1 := Lib.hid (R1.out.below hb2); have R2 := Lib.hid hr2; have B2 := Lib.hid (below_chain B1.out B1.out.size hb2)
      have hml2 := hr2.len
      have hw0 := keepc B2.out hc0
      have hw1 := keepc B2.out hc1
      clear hr2 hb2 hc0 hc1
      obtain ⟨q, hq⟩ : ∃ q, decide (a = b) = q := ⟨_, rfl⟩
      have HQ := Lib.hid hq
      cases q
      · have HG := Lib.hid (show (5, v) :: (a ++ b) = F by rw [← HFF.out, pairE, if_neg (by simpa using hq)])
        clear hq
        have RX := Lib.hid (show ∀ o, Rd2 (w2.alloc o) A1 m1 a from fun o => (R1.out).alloc o)
        go_wp2_with (first
          | (go_at_call 56; refine (l22SameExpr_c A1 A2 m1 m2 c1 c2 a b false w2 R1.out R2.out (by omega) HQ.out).mono ?_; rintro e w9 ⟨rfl, k9, hk9⟩; have R1 := Lib.hid (show Rd2 w9 A1 m1 a by rw [hk9]; exact Rd.drewN R1.out k9); have R2 := Lib.hid (show Rd2 w9 A2 m2 b by rw [hk9]; exact Rd.drewN R2.out k9); have B2 := Lib.hid (show Below w.heap.size w w9 by rw [hk9]; exact below_drewN B2.out k9); have hw0 : w9.cell? ad = some (i64 5) := (by rw [hk9]; exact hw0); have hw1 : w9.cell? ⟨ad.block, ad.off + 1, none⟩ = some (i64 v) := (by rw [hk9]; exact hw1); have RX := Lib.hid (show ∀ o, Rd2 (w9.alloc o) A1 m1 a from fun o => (R1.out).alloc o); clear hk9)
          | (at_builtin; refine wp_appExpr (by rfl) _ _ (by rfl) w9.heap.size (some ⟨w9.heap.size, 0, none⟩) 1 1 ([((5 : Int), v)].flatMap enc2) (by rfl) (by exact Own.fullK (Nat.le_refl _) rfl rfl (by omega)) A1 m1 c1 a (by rfl) (by exact RX.out _) (by omega) (by simp) ?_; intro A3 c3 w3 own3 hb3 hk3 hg3 hz3; have B3 := Lib.hid ((below_size.alloc (Nat.le_refl _) (.cells #[i64 5, i64 v] 49)).trans hb3); have hz3 := B3.out.size)
          | (at_builtin; refine wp_appExpr (by rfl) _ _ (by rfl) w9.heap.size A3 (1 + m1) c3 ([((5 : Int), v)].flatMap enc2 ++ a.flatMap enc2) (by rfl) (by exact own3) A2 m2 c2 b (by rfl) (by exact R2.out.below B3.out) (by omega) (by exact hz3) ?_; intro A4 c4 w4 own4 hb4 hk4 hg4 hz4))
        have hcap := own4.cap
        rw [← List.flatMap_append, ← List.flatMap_append] at own4
        have O4 := Lib.hid own4; have B4 := Lib.hid (B3.out.trans hb4)
        clear own4 hb4 hk4 hg4 hz4
        go_wp2_with fail
        go_ret
        rw [← HG.out]
        exact ⟨_, _, _, rfl, O4.out.wrK.rd, hcap, below_chain B2.out B2.out.size B4.out⟩
      · have HG := Lib.hid (show [(2, 0), (0, 0), (0, 0)] = F by rw [← HFF.out, pairE, if_pos ⟨rfl, by simpa using hq⟩])
        clear hq
        go_wp2_with (go_at_call 56; refine (l22SameExpr_c A1 A2 m1 m2 c1 c2 a b true w2 R1.out R2.out (by omega) HQ.out).mono ?_; rintro e w9 ⟨rfl, k9, rfl⟩)
        go_ret
        rw [← HG.out]
        exact ⟨_, _, _, rfl, rd_newE [(2, 0), (0, 0), (0, 0)] _ rfl rfl, Nat.le_refl _, (below_drewN B2.out k9).alloc B2.out.size _⟩
    have g5 : (t == 5) = false := by simpa using h5
    have hl0 := isE_leaf HE.out (many_zero (k := t) (by omega) (by omega))
    subst hl0
    have HG := Lib.hid (show [(t, v)] = F by rw [← HF.out, foldK_leaf (by simp; omega) (by simp; omega)])
    clear hnl
    go_enter Try.func39, Try.ntmps39
    go_wp2_with fail
    go_ret
    rw [← HG.out]
    exact ⟨_, _, _, rfl, rd_newE [(t, v)] _ rfl rfl, Nat.le_refl _, below_size.alloc (Nat.le_refl _) _⟩
end Go.Proofs.Ytecpbgmcednpoaa
