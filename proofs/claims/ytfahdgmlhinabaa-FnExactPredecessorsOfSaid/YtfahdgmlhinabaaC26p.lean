/-
  Contracts of chapter 26: the predecessor of a partial configuration by a rule.
-/
import Derived.Test.YtfahdgmlhinabaaC26s
import Derived.Test.YtfahdgmlhinabaaConcat
import Derived.Test.YtfahdgmlhinabaaC26f
namespace Go.Proofs.Ytfahdgmlhinabaa
open Go.RowKit

abbrev Part := Int × Int × List Int
def predB (s at_ : Int) (xs : List Int) (p a : Int) (r : Rule3) : Option Part :=
  if r.2.2 ≠ s then none
  else if at_ - r.2.1 < 0 then some (p, 0, a :: xs)
  else if at_ - r.2.1 = xs.length then some (p, at_ - r.2.1, xs ++ [a])
  else if xs.getD (at_ - r.2.1).toNat 0 ≠ r.1 then none
  else some (p, at_ - r.2.1, xs.set (at_ - r.2.1).toNat a)
theorem predB_len {s at_ : Int} {xs : List Int} {p a : Int} {r : Rule3} {y : Part} (h : predB s at_ xs p a r = some y) : xs.length ≤ y.2.2.length ∧ y.2.2.length ≤ xs.length + 1 := by
  unfold predB at h
  repeat' split at h
  all_goals first | (cases h; done) | (injection h with h; rw [← h]; simp)
/-- a partial configuration, or none -/
def PrOut (o : Option Part) (w : World) (e : Ending) (w' : World) : Prop :=
  ∃ s a A n c, e = .returned (.tuple #[.agg #[.int .i64 s, .int .i64 a, .slice A n c], .bool o.isSome]) ∧ (∀ y, o = some y → s = y.1 ∧ a = y.2.1 ∧ n = y.2.2.length ∧ Wr w' w.heap.size w'.heap.size A n (y.2.2.map i64)) ∧ Below w.heap.size w w'
theorem PrOut.bad {w w' : World} (h : Below w.heap.size w w') : PrOut none w (.returned (.tuple #[.agg #[i64 0, i64 0, .slice none 0 0], .bool false])) w' := ⟨0, 0, none, 0, 0, rfl, (fun y hy => by cases hy), h⟩
theorem PrOut.good {w w2 : World} {s a : Int} {ys : List Int} {A : Option Addr} {n c g : Nat} (hn : n = ys.length) (hW : Wr w2 (g + 1) w2.heap.size A n (ys.map i64)) (hg : w.heap.size ≤ g) (hb : Below w.heap.size w w2) {u0 u1 u2 : Value} :
    PrOut (some (s, a, ys)) w (.returned (.tuple #[.agg #[i64 s, i64 a, .slice A n c], .bool true])) (((w2.setCell ⟨g, 0, none⟩ u0).setCell ⟨g, 1, none⟩ u1).setCell ⟨g, 2, none⟩ u2) := by
  refine ⟨s, a, A, n, c, rfl, fun y hy => ?_, ((hb.setCell (by exact hg) _).setCell (by exact hg) _).setCell (by exact hg) _⟩
  injection hy with hy; subst hy
  refine ⟨rfl, rfl, hn, ?_⟩
  exact (((hW.set_far (.inl (by show g < _; omega)) _).set_far (.inl (by show g < _; omega)) _).set_far (.inl (by show g < _; omega)) _).wider (by omega) (by simp)
theorem joined_c (A : Option Addr) (m c : Nat) (its : List ItV) (w : World) (h : RdV w 1 A m its) (hm : m ≤ 1000000) (hs : sumV its ≤ 100000000) :
    Calls Try.prog 96 #[.slice A m c] w (CatOut 1 (sumV its) (its.flatMap ItV.vs) w) := by
  go_enter Try.func96, Try.ntmps96
  go_wp2_with fail
  refine (concatI_c A m c its _ h hm hs).mono ?_
  rintro e w1 ⟨A1, c1, rfl, hw, hc, hb⟩
  have W := Lib.hid hw; have B := Lib.hid hb; clear hw hb h
  go_wp2_with fail
  go_ret
  exact ⟨A1, c1, rfl, W.out, hc, B.out⟩
theorem rdV2 {w : World} {g : Nat} {t : TypeId} {A B : Option Addr} {n m c d : Nat} {xs ys : List Int} (hg : Blk w g t #[.slice A n c, .slice B m d]) (hx : RdI w A n xs) (hy : RdI w B m ys) : RdV w 1 (some ⟨g, 0, none⟩) 2 [⟨A, n, c, xs.map i64⟩, ⟨B, m, d, ys.map i64⟩] := by
  refine ⟨hg.rd (by simp [hdV]) (by simp), fun t ht => ?_, fun t ht u hu => ?_⟩
  · simp at ht
    rcases ht with rfl | rfl
    · show Rd w A (n * 1) _; rw [Nat.mul_one]; exact hx
    · show Rd w B (m * 1) _; rw [Nat.mul_one]; exact hy
  · simp at ht
    rcases ht with rfl | rfl
    all_goals (obtain ⟨y, _, rfl⟩ := List.mem_map.1 hu; rfl)
set_option maxHeartbeats 4000000 in
theorem predecessor_c (s at_ : Int) (A : Option Addr) (n cp : Nat) (xs : List Int) (p a wr_ mv nx : Int) (w : World) (h : RdI w A n xs) (hn : 1 ≤ n ∧ n ≤ 60) (hat : 0 ≤ at_ ∧ at_ ≤ (n : Int) - 1) (hmv : mv = 1 ∨ mv = -1) :
    Calls Try.prog 113 #[.agg #[.int .i64 s, .int .i64 at_, .slice A n cp], .int .i64 p, .int .i64 a, .agg #[.int .i64 wr_, .int .i64 mv, .int .i64 nx]] w (PrOut (predB s at_ xs p a (wr_, mv, nx)) w) := by
  have HL := Lib.hid h.len
  obtain ⟨R, hR⟩ : ∃ R, predB s at_ xs p a (wr_, mv, nx) = R := ⟨_, rfl⟩
  rw [hR]
  obtain ⟨hh, hhd⟩ : ∃ hh, at_ - mv = hh := ⟨_, rfl⟩
  have HR := Lib.hid (show R = if nx ≠ s then none else if hh < 0 then some (p, 0, a :: xs) else if hh = (n : Int) then some (p, hh, xs ++ [a]) else if xs.getD hh.toNat 0 ≠ wr_ then none else some (p, hh, xs.set hh.toNat a) by
    rw [← hR, predB, h.len, hhd])
  have hhb : -1 ≤ hh ∧ hh ≤ (n : Int) := by omega
  have vh : IntKind.i64.wrap (at_ - mv) = hh := (IntWalk.i64_in _ (by omega)).trans hhd
  have vh2 : wrap64 (at_ - mv) = hh := by unfold wrap64; omega
  obtain ⟨w0, hw0⟩ : ∃ w0, ((w.alloc (.cells #[i64 s, i64 at_, .slice A n cp] 48)).alloc (.cells #[i64 wr_, i64 mv, i64 nx] 142)).alloc (.cells #[i64 0, i64 0, .slice none 0 0] 48) = w0 := ⟨_, rfl⟩
  obtain ⟨b0, b1, b2⟩ := boxes3 w #[i64 s, i64 at_, .slice A n cp] #[i64 wr_, i64 mv, i64 nx] #[i64 0, i64 0, .slice none 0 0] 48 142 48
  rw [hw0] at b0 b1 b2
  have hz0 : w0.heap.size = w.heap.size + 3 := by rw [← hw0]; simp
  have B0 := Lib.hid (show Below w.heap.size w w0 by rw [← hw0]; exact ((below_size.alloc (Nat.le_refl _) _).alloc (by simp) _).alloc (by simp; omega) _)
  have H0 := Lib.hid (h.below B0.out)
  have HB := Lib.hid (And.intro b0 (And.intro b1 b2))
  have c0 := b0.cell 0; have c1 := b0.cell 1; have c2 := b0.cell 2
  have d0 := b1.cell 0; have d1 := b1.cell 1; have d2 := b1.cell 2
  have e0 := b2.cell 0; have e1 := b2.cell 1; have e2 := b2.cell 2; have f0 := b2.frozen 0; have f1 := b2.frozen 1; have f2 := b2.frozen 2
  simp at c0 c1 c2 d0 d1 d2 e0 e1 e2
  have HZ := Lib.hid hz0
  have hz1 : w.heap.size + 3 ≤ w0.heap.size := by omega
  clear hR hhd h b0 b1 b2 hz0
  by_cases k1 : nx = s
  · have HR2 := Lib.hid (show R = if hh < 0 then some (p, 0, a :: xs) else if hh = (n : Int) then some (p, hh, xs ++ [a]) else if xs.getD hh.toNat 0 ≠ wr_ then none else some (p, hh, xs.set hh.toNat a) by rw [HR.out, if_neg (by simpa using k1)])
    have k1b : (nx != s) = false := by simpa using k1
    clear HR k1
    by_cases k2 : hh < 0
    · have HR3 := Lib.hid (show R = some (p, 0, a :: xs) by rw [HR2.out, if_pos k2])
      have k2b : decide (hh < 0) = true := decide_eq_true k2
      clear HR2 k2
      have c2a := fun o => keepa o c2
      go_enter Try.func113, Try.ntmps113
      go_wp2_with fail
      clear c2a
      obtain ⟨w1, hw1⟩ : ∃ w1, (w0.alloc (.cells #[i64 a] 2)).alloc (.cells #[.slice (some ⟨w0.heap.size, 0, none⟩) 1 1, .slice A n cp] 25) = w1 := ⟨_, rfl⟩
      rw [hw1]
      have g0 : Blk w1 w0.heap.size 2 #[i64 a] := by rw [← hw1]; exact (Blk.new w0 _ _).alloc _
      have g1 : Blk w1 (w0.heap.size + 1) 25 #[.slice (some ⟨w0.heap.size, 0, none⟩) 1 1, .slice A n cp] := by rw [← hw1]; have := Blk.new (w0.alloc (.cells #[i64 a] 2)) 25 #[.slice (some ⟨w0.heap.size, 0, none⟩) 1 1, .slice A n cp]; rwa [World.size_alloc] at this
      have E1 := Lib.hid (show Below w0.heap.size w0 w1 by rw [← hw1]; exact (below_size.alloc (Nat.le_refl _) _).alloc (by simp) _)
      have RV := Lib.hid (rdV2 (xs := [a]) g1 (by exact g0.rd (n := 1) (by simp) (by simp)) (H0.out.below E1.out))
      clear hw1 g0 g1
      refine (joined_c _ 2 2 _ _ RV.out (by omega) (by simp [sumV]; omega)).mono ?_
      rintro e w2 ⟨A2, cc, rfl, hw, hcc, hb⟩
      have E2 := Lib.hid (below_chain E1.out E1.out.size hb)
      have hzz := E1.out.size
      have W2 := Lib.hid (show Wr w2 (w.heap.size + 1 + 1 + 1) w2.heap.size A2 (n + 1) ((a :: xs).map i64) by
        have := hw.wider (lo' := w.heap.size + 1 + 1 + 1) (by omega) (Nat.le_refl _)
        simpa [sumV, Nat.add_comm] using this)
      have b2 := HB.out.2.2.keep E2.out
      have x0 := b2.cell 0; have x1 := b2.cell 1; have x2 := b2.cell 2; have y0 := b2.frozen 0; have y1 := b2.frozen 1; have y2 := b2.frozen 2
      simp at x0 x1 x2
      have HS := Lib.hid (show sumV [⟨some ⟨w0.heap.size, 0, none⟩, 1, 1, [a].map i64⟩, ⟨A, n, cp, xs.map i64⟩] = n + 1 by simp [sumV, Nat.add_comm])
      rw [HS.out]
      clear hw hb b2
      go_wp2_with fail
      refine bodyPost_ret (v := .tuple #[.agg #[i64 p, i64 0, .slice A2 (n + 1) cc], .bool true]) (by simp [results, Try.results113, go_sem, x0, x1, x2]) rfl ?_
      rw [HR3.out]
      exact PrOut.good (by rw [List.length_cons, HL.out]) W2.out (by omega) (below_chain B0.out B0.out.size E2.out)
    · have HR3 := Lib.hid (show R = if hh = (n : Int) then some (p, hh, xs ++ [a]) else if xs.getD hh.toNat 0 ≠ wr_ then none else some (p, hh, xs.set hh.toNat a) by rw [HR2.out, if_neg k2])
      have k2b : decide (hh < 0) = false := decide_eq_false k2
      clear HR2
      by_cases k3 : hh = (n : Int)
      · have HR4 := Lib.hid (show R = some (p, hh, xs ++ [a]) by rw [HR3.out, if_pos k3])
        have k3b : (hh == (n : Int)) = true := by simpa using k3
        clear HR3 k2 k3
        go_enter Try.func113, Try.ntmps113
        go_wp2_with (go_at_call 81; refine (sizeI_c _ _ _ _ (by omega)).mono ?_; rintro e w' ⟨rfl, rfl⟩)
        obtain ⟨w1, hw1⟩ : ∃ w1, (w0.alloc (.cells #[i64 a] 2)).alloc (.cells #[.slice A n cp, .slice (some ⟨w0.heap.size, 0, none⟩) 1 1] 25) = w1 := ⟨_, rfl⟩
        rw [hw1]
        have g0 : Blk w1 w0.heap.size 2 #[i64 a] := by rw [← hw1]; exact (Blk.new w0 _ _).alloc _
        have g1 : Blk w1 (w0.heap.size + 1) 25 #[.slice A n cp, .slice (some ⟨w0.heap.size, 0, none⟩) 1 1] := by rw [← hw1]; have := Blk.new (w0.alloc (.cells #[i64 a] 2)) 25 #[.slice A n cp, .slice (some ⟨w0.heap.size, 0, none⟩) 1 1]; rwa [World.size_alloc] at this
        have E1 := Lib.hid (show Below w0.heap.size w0 w1 by rw [← hw1]; exact (below_size.alloc (Nat.le_refl _) _).alloc (by simp) _)
        have RV := Lib.hid (rdV2 (ys := [a]) g1 (H0.out.below E1.out) (by exact g0.rd (n := 1) (by simp) (by simp)))
        clear hw1 g0 g1
        refine (joined_c _ 2 2 _ _ RV.out (by omega) (by simp [sumV]; omega)).mono ?_
        rintro e w2 ⟨A2, cc, rfl, hw, hcc, hb⟩
        have E2 := Lib.hid (below_chain E1.out E1.out.size hb)
        have hzz := E1.out.size
        have W2 := Lib.hid (show Wr w2 (w.heap.size + 1 + 1 + 1) w2.heap.size A2 (n + 1) ((xs ++ [a]).map i64) by
          have := hw.wider (lo' := w.heap.size + 1 + 1 + 1) (by omega) (Nat.le_refl _)
          simpa [sumV, Nat.add_comm] using this)
        have b2 := HB.out.2.2.keep E2.out
        have x0 := b2.cell 0; have x1 := b2.cell 1; have x2 := b2.cell 2; have y0 := b2.frozen 0; have y1 := b2.frozen 1; have y2 := b2.frozen 2
        simp at x0 x1 x2
        have HS := Lib.hid (show sumV [⟨A, n, cp, xs.map i64⟩, ⟨some ⟨w0.heap.size, 0, none⟩, 1, 1, [a].map i64⟩] = n + 1 by simp [sumV])
        rw [HS.out]
        clear hw hb b2
        go_wp2_with fail
        refine bodyPost_ret (v := .tuple #[.agg #[i64 p, i64 hh, .slice A2 (n + 1) cc], .bool true]) (by simp [results, Try.results113, go_sem, x0, x1, x2]) rfl ?_
        rw [HR4.out]
        exact PrOut.good (by rw [List.length_append, HL.out]; rfl) W2.out (by omega) (below_chain B0.out B0.out.size E2.out)
      · have k3b : (hh == (n : Int)) = false := by simpa using k3
        obtain ⟨hN, rfl⟩ := Int.eq_ofNat_of_zero_le (show 0 ≤ hh by omega)
        have hN2 : hN < n := by omega
        obtain ⟨ad, xv, eA, hab, hxv, hcv⟩ := H0.out.at_ hN2
        subst eA
        have HR4 := Lib.hid (show R = if xv ≠ wr_ then none else some (p, (hN : Int), xs.set hN a) by rw [HR3.out, if_neg k3, show ((hN : Int)).toNat = hN by omega, getD_at hxv])
        clear HR3 k2 k3 hxv
        by_cases k4 : xv = wr_
        · have HR5 := Lib.hid (show R = some (p, (hN : Int), xs.set hN a) by rw [HR4.out, if_neg (fun h => h k4)])
          have k4b : (xv != wr_) = false := by simpa using k4
          clear HR4 k4
          go_enter Try.func113, Try.ntmps113
          go_wp2_with (go_at_call 81; refine (sizeI_c _ _ _ _ (by omega)).mono ?_; rintro e w' ⟨rfl, rfl⟩)
          go_quiet (fail)
          go_wp2_with fail
          obtain ⟨w1, hw1⟩ : ∃ w1, w0.drewN nq = w1 := ⟨_, rfl⟩
          have E1 := Lib.hid (show Below w0.heap.size w0 w1 by rw [← hw1]; exact below_drewN below_size _)
          have hz2 : w0.heap.size = w1.heap.size := by rw [← hw1]; rfl
          rw [hw1]
          clear hw1
          refine (cloneI_c (some ad) n cp xs _ (by exact H0.out.below E1.out) (by omega) (by omega)).mono ?_
          rintro e w2 ⟨ao, cap, rfl, hw, hb⟩
          have E2 := Lib.hid (below_chain E1.out (by omega) hb)
          have hz3 := hb.size
          obtain ⟨_, v0, ea, hao, hao2, _, _, hcw, hfw⟩ := hw.at_ (k := hN) hN2
          injection ea with ea; subst ea
          have W2 := Lib.hid (hw.set hN2 (i64 a))
          have W3 := Lib.hid hw
          have b2 := HB.out.2.2.keep E2.out
          obtain ⟨X, hX⟩ : ∃ X, (Obj.cells #[i64 p, i64 (hN : Int), .slice (some ao) n cap] 48) = X := ⟨_, rfl⟩
          have hne : ao.block ≠ w2.heap.size := by omega
          have n4 : Blk ((w2.alloc X).setCell (ao.add hN) (i64 a)) w2.heap.size 48 #[i64 p, i64 (hN : Int), .slice (some ao) n cap] := by rw [← hX]; exact (Blk.new w2 _ _).far (by rw [block_add]; exact fun h => hne h.symm) _
          have b4 : Blk ((w2.alloc X).setCell (ao.add hN) (i64 a)) (w.heap.size + 1 + 1) 48 #[i64 0, i64 0, .slice none 0 0] := (b2.alloc X).far (by rw [block_add]; omega) _
          have z0 : ((w2.alloc X).setCell (ao.add hN) (i64 a)).cell? ⟨w2.heap.size, 0, none⟩ = some (i64 p) := n4.cell 0
          have z1 : ((w2.alloc X).setCell (ao.add hN) (i64 a)).cell? ⟨w2.heap.size, 1, none⟩ = some (i64 (hN : Int)) := n4.cell 1
          have z2 : ((w2.alloc X).setCell (ao.add hN) (i64 a)).cell? ⟨w2.heap.size, 2, none⟩ = some (.slice (some ao) n cap) := n4.cell 2
          have x0 : ((w2.alloc X).setCell (ao.add hN) (i64 a)).cell? ⟨w.heap.size + 1 + 1, 0, none⟩ = some (i64 0) := b4.cell 0
          have x1 : ((w2.alloc X).setCell (ao.add hN) (i64 a)).cell? ⟨w.heap.size + 1 + 1, 1, none⟩ = some (i64 0) := b4.cell 1
          have x2 : ((w2.alloc X).setCell (ao.add hN) (i64 a)).cell? ⟨w.heap.size + 1 + 1, 2, none⟩ = some (.slice none 0 0) := b4.cell 2
          have y0 := b4.frozen 0; have y1 := b4.frozen 1; have y2 := b4.frozen 2
          have hcw' : (w2.alloc X).cell? (ao.add hN) = _ := keepa X hcw
          have hfw' : (w2.alloc X).frozen? (ao.add hN) = false := by rw [← hfw]; exact World.frozen?_of_block (by rw [block_add]; exact Below.heap_alloc w2 X _ hao2)
          have E4 := Lib.hid (show Below w0.heap.size w0 ((w2.alloc X).setCell (ao.add hN) (i64 a)) from (E2.out.alloc (by omega) X).setCell (by rw [block_add]; omega) _)
          have W4 := Lib.hid (show Wr ((w2.alloc X).setCell (ao.add hN) (i64 a)) (w.heap.size + 1 + 1 + 1) ((w2.alloc X).setCell (ao.add hN) (i64 a)).heap.size (some ao) n ((xs.set hN a).map i64) by
            have h1 := W3.out.below (below_size.alloc (Nat.le_refl _) X)
            have h2 := h1.set hN2 (i64 a)
            rw [← List.map_set] at h2
            exact h2.wider (by omega) (by simp))
          rw [← hX] at z0 z1 z2 x0 x1 x2 y0 y1 y2 hcw' hfw' E4 W4
          clear hw hb b2 n4 b4 hX
          go_wp2_with fail
          refine bodyPost_ret (v := .tuple #[.agg #[i64 p, i64 (hN : Int), .slice (some ao) n cap], .bool true]) (by simp [results, Try.results113, go_sem, x0, x1, x2]) rfl ?_
          rw [HR5.out]
          exact PrOut.good (by rw [List.length_set, HL.out]) W4.out (by omega) (below_chain B0.out B0.out.size E4.out)
        · have HR5 := Lib.hid (show R = none by rw [HR4.out, if_pos k4])
          have k4b : (xv != wr_) = true := by simpa using k4
          clear HR4 k4
          go_enter Try.func113, Try.ntmps113
          go_wp2_with (go_at_call 81; refine (sizeI_c _ _ _ _ (by omega)).mono ?_; rintro e w' ⟨rfl, rfl⟩)
          go_quiet (fail)
          go_wp2_with fail
          refine bodyPost_ret (v := .tuple #[.agg #[i64 0, i64 0, .slice none 0 0], .bool false]) (by simp [results, Try.results113, go_sem, e0, e1, e2]) rfl ?_
          rw [HR5.out]
          exact PrOut.bad (by repeat' (first | exact below_drewN B0.out _ | refine Below.setCell ?_ (by show _ ≤ _ + 1 + 1; omega) _))
  · have HR2 := Lib.hid (show R = none by rw [HR.out, if_pos k1])
    have k1b : (nx != s) = true := by simpa using k1
    clear HR k1
    go_enter Try.func113, Try.ntmps113
    go_wp2_with fail
    refine bodyPost_ret (v := .tuple #[.agg #[i64 0, i64 0, .slice none 0 0], .bool false]) (by simp [results, Try.results113, go_sem, e0, e1, e2]) rfl ?_
    rw [HR2.out]
    exact PrOut.bad ((by have hzz := (B0.out).size; repeat' (first | (with_reducible exact B0.out) | (with_reducible refine Below.alloc ?_ ?_ _) | (with_reducible refine Below.setCell ?_ ?_ _) | (with_reducible refine below_drew ?_) | omega | (simp; done) | (simp; omega))))
end Go.Proofs.Ytfahdgmlhinabaa
