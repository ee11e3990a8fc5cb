/-
  Contracts of chapter 16: the configuration that a word shows, of the reference.
-/
import Derived.Test.YtcbcjhfeidkeaaaC16g
import Derived.Test.YtcbcjhfeidkeaaaP16
import Derived.Test.YtcbcjhfeidkeaaaRevT
namespace Go.Proofs.Ytcbcjhfeidkeaaa
open Go.RowKit

/-- a configuration of the call's own, and whether it is one of the machine -/
def CfOut (t s : Int) (X : Option (Int × List Int × List Int)) (w : World) (e' : Ending) (w' : World) : Prop :=
  match X with
  | none => e' = .returned (.tuple #[.agg #[i64 0, .slice none 0 0, .slice none 0 0], .bool false]) ∧ Below w.heap.size w w'
  | some (q, L, M) => ∃ A c B d, e' = .returned (.tuple #[.agg #[i64 q, .slice A L.length c, .slice B M.length d], .bool (confB s t q L M)]) ∧ WrS w' w.heap.size w'.heap.size ([sgI A L.length L] ++ [sgI B M.length M]) ∧ (L.length ≤ 1000000 ∧ M.length ≤ 1000000) ∧ Below w.heap.size w w'
/-- what is left of the scan -/
def midW (w : List Int) (i : Nat) : List Int := (w.drop i).take (w.length - 1 - i)
theorem midW_at {w : List Int} {i : Nat} {x : Int} (h : w[i]? = some x) (hi : i + 1 < w.length) : midW w i = x :: midW w (i + 1) := by
  rw [midW, midW, drop_at h, show w.length - 1 - i = (w.length - 1 - (i + 1)) + 1 by omega, List.take_succ_cons]
theorem midW_end {w : List Int} {i : Nat} (hi : w.length ≤ i + 1) : midW w i = [] := by
  rw [midW, show w.length - 1 - i = 0 by omega, List.take_zero]
theorem midW_one (w : List Int) : midW w 1 = cellsW w := by rw [midW, cellsW, show w.length - 1 - 1 = w.length - 2 by omega]
theorem wr_pair {w : World} {lo hi l1 r1 l2 r2 n m : Nat} {A B : Option Addr} {vs us : List Value} (h : Wr w l1 r1 A n vs) (h' : Wr w l2 r2 B m us) (hd : r1 ≤ l2 ∨ r2 ≤ l1) (b1 : lo ≤ l1 ∧ l1 ≤ r1 ∧ r1 ≤ hi) (b2 : lo ≤ l2 ∧ l2 ≤ r2 ∧ r2 ≤ hi) : WrS w lo hi ([⟨A, n, vs⟩] ++ [⟨B, m, us⟩]) := by
  refine ⟨fun s hs => ?_, List.pairwise_append.2 ⟨List.pairwise_singleton _ _, List.pairwise_singleton _ _, fun s hs t ht a b ha hb hn hm => ?_⟩⟩
  · rcases List.mem_append.1 hs with hs | hs <;> (rw [List.mem_singleton] at hs; subst hs)
    · exact h.wider b1.1 b1.2.2
    · exact h'.wider b2.1 b2.2.2
  · rw [List.mem_singleton] at hs ht
    subst hs; subst ht
    obtain ⟨a', e, q1, q2, _⟩ := h.2 hn
    obtain ⟨b', e', q3, q4, _⟩ := h'.2 hm
    rw [show A = some a from ha] at e; rw [show B = some b from hb] at e'
    injection e with e; injection e' with e'
    subst e; subst e'
    omega
theorem cfg_store {w : World} {lo hi l1 r1 l2 r2 l3 r3 n m g : Nat} {A B : Option Addr} {vs us : List Value} {ty : TypeId} {z0 z1 z2 u0 u1 u2 : Value} (h : Wr w l1 r1 A n vs) (h' : Wr w l2 r2 B m us) (hg : Blk w g ty #[z0, z1, z2]) (g1 : l3 ≤ g) (g2 : g < r3)
    (d1 : r1 ≤ l2 ∨ r2 ≤ l1) (d2 : r1 ≤ l3 ∨ r3 ≤ l1) (d3 : r2 ≤ l3 ∨ r3 ≤ l2) (b1 : lo ≤ l1 ∧ l1 ≤ r1 ∧ r1 ≤ hi) (b2 : lo ≤ l2 ∧ l2 ≤ r2 ∧ r2 ≤ hi) :
    WrS (((w.setCell ⟨g, 0, none⟩ u0).setCell ⟨g, 1, none⟩ u1).setCell ⟨g, 2, none⟩ u2) lo hi ([⟨A, n, vs⟩] ++ [⟨B, m, us⟩]) ∧ Blk (((w.setCell ⟨g, 0, none⟩ u0).setCell ⟨g, 1, none⟩ u1).setCell ⟨g, 2, none⟩ u2) g ty #[u0, u1, u2] := by
  have f1 : ∀ i, (⟨g, i, none⟩ : Addr).block < l1 ∨ r1 ≤ (⟨g, i, none⟩ : Addr).block := fun i => by show g < l1 ∨ r1 ≤ g; omega
  have f2 : ∀ i, (⟨g, i, none⟩ : Addr).block < l2 ∨ r2 ≤ (⟨g, i, none⟩ : Addr).block := fun i => by show g < l2 ∨ r2 ≤ g; omega
  exact ⟨wr_pair (((h.set_far (f1 0) _).set_far (f1 1) _).set_far (f1 2) _) (((h'.set_far (f2 0) _).set_far (f2 1) _).set_far (f2 2) _) d1 b1 b2, ((hg.set_ 0 u0).set_ 1 u1).set_ 2 u2⟩
set_option maxHeartbeats 4000000 in
set_option maxRecDepth 100000 in
theorem l16Config0_c (g : Nat) (sy st e : Int) (RA : Option Addr) (rn rc : Nat) (rs : List Rule3) (A : Option Addr) (n c : Nat) (ws : List Int) (w : World) (hM : MachP w g sy st RA rn rc rs) (h : RdI w A n ws) (hs : 2 ≤ sy ∧ sy ≤ 6) (ht : 1 ≤ st ∧ st ≤ 1000) (he : e = sy + st) (hn : n ≤ 100000) (hf : frameB e ws = false) :
    Calls Try.prog 33 #[.pointer (some ⟨g, 0, none⟩), .slice A n c] w (CfOut st sy none w) := by
  have hl := h.len
  obtain ⟨w0, hw0⟩ : ∃ w0, w.alloc (.cells #[.int .i64 0, .slice none 0 0, .slice none 0 0] 30) = w0 := ⟨_, rfl⟩
  have E0 := Lib.hid (show Below w.heap.size w w0 by rw [← hw0]; exact below_size.alloc (Nat.le_refl _) _)
  have KC := Lib.hid (show Blk w0 w.heap.size 30 #[.int .i64 0, .slice none 0 0, .slice none 0 0] by rw [← hw0]; exact Blk.new _ _ _)
  have H := Lib.hid (RdI.below h E0.out); have HM := Lib.hid (hM.below E0.out)
  have HF := Lib.hid hf; have HEE := Lib.hid he
  clear h hM hf he
  go_enter Try.func33, Try.ntmps33
  go_wp2_with fail
  refine (l16Border_c g sy st e RA rn rc rs w0 HM.out hs ht HEE.out).mono ?_
  rintro e' w' ⟨rfl, ⟨j, rfl⟩⟩
  have E1 := Lib.hid (show Below w.heap.size w (w0.drewN j) from below_drewN E0.out j)
  have K1 := Lib.hid (show Blk (w0.drewN j) w.heap.size 30 #[.int .i64 0, .slice none 0 0, .slice none 0 0] from KC.out.drewN j)
  obtain ⟨w1, hw1⟩ : ∃ w1, w0.drewN j = w1 := ⟨_, rfl⟩
  have H1 := Lib.hid (show RdI w1 A n ws by rw [← hw1]; exact H.out)
  rw [hw1] at E1 K1 ⊢
  clear hw0 hw1
  have z0 : w1.cell? ⟨w.heap.size, 0, none⟩ = some (.int .i64 0) := K1.out.cell 0
  have z1 : w1.cell? ⟨w.heap.size, 1, none⟩ = some (.slice none 0 0) := K1.out.cell 1
  have z2 : w1.cell? ⟨w.heap.size, 2, none⟩ = some (.slice none 0 0) := K1.out.cell 2
  have f0 := K1.out.frozen 0; have f1 := K1.out.frozen 1; have f2 := K1.out.frozen 2
  by_cases h3 : 3 ≤ n
  · have g0 : decide ((n : Int) < 3) = false := by rw [decide_eq_false_iff_not]; omega
    obtain ⟨ad, x, rfl, _, hx, hc0⟩ := RdI.at_ H1.out (k := 0) (by omega)
    obtain ⟨_, y, e1, _, hy, hc9⟩ := RdI.at_ H1.out (k := n - 1) (by omega)
    injection e1 with e1; subst e1
    rw [show ad.add 0 = ad by cases ad; rfl] at hc0
    have g2 : ((n : Int) - 1).toNat = n - 1 := by omega
    by_cases q1 : x = e
    · have q2 : y ≠ e := by
        intro hye
        have := HF.out
        rw [frameB, hl, decide_eq_true h3, hx, hy, q1, hye] at this
        simp at this
      have b1 : (x != e) = false := by simp [q1]
      have b2 : (y != e) = true := by simp [q2]
      clear hx hy HF q1 q2
      go_wp2_with fail
      obtain ⟨w9, hw9⟩ : ∃ w9, (((w1).setCell ⟨w.heap.size, 0, none⟩ (.int .i64 0)).setCell ⟨w.heap.size, 1, none⟩ (.slice none 0 0)).setCell ⟨w.heap.size, 2, none⟩ (.slice none 0 0) = w9 := ⟨_, rfl⟩
      rw [hw9]
      have KZ : Blk w9 w.heap.size 30 #[.int .i64 0, .slice none 0 0, .slice none 0 0] := by rw [← hw9]; exact (((K1.out.set_ 0 _).set_ 1 _).set_ 2 _)
      have BZ : Below w.heap.size w w9 := by rw [← hw9]; exact ((E1.out.setCell (by simp) _).setCell (by simp) _).setCell (by simp) _
      have y0 : w9.cell? ⟨w.heap.size, 0, none⟩ = some (.int .i64 0) := KZ.cell 0
      have y1 : w9.cell? ⟨w.heap.size, 1, none⟩ = some (.slice none 0 0) := KZ.cell 1
      have y2 : w9.cell? ⟨w.heap.size, 2, none⟩ = some (.slice none 0 0) := KZ.cell 2
      clear hw9 KZ
      refine bodyPost_ret (v := .tuple #[.agg #[.int .i64 0, .slice none 0 0, .slice none 0 0], .bool false]) (by simp [results, Try.results33, go_sem, y0, y1, y2]) rfl ?_
      exact ⟨rfl, BZ⟩
    · have b1 : (x != e) = true := by simp [q1]
      clear hx hy HF q1
      go_wp2_with fail
      obtain ⟨w9, hw9⟩ : ∃ w9, (((w1).setCell ⟨w.heap.size, 0, none⟩ (.int .i64 0)).setCell ⟨w.heap.size, 1, none⟩ (.slice none 0 0)).setCell ⟨w.heap.size, 2, none⟩ (.slice none 0 0) = w9 := ⟨_, rfl⟩
      rw [hw9]
      have KZ : Blk w9 w.heap.size 30 #[.int .i64 0, .slice none 0 0, .slice none 0 0] := by rw [← hw9]; exact (((K1.out.set_ 0 _).set_ 1 _).set_ 2 _)
      have BZ : Below w.heap.size w w9 := by rw [← hw9]; exact ((E1.out.setCell (by simp) _).setCell (by simp) _).setCell (by simp) _
      have y0 : w9.cell? ⟨w.heap.size, 0, none⟩ = some (.int .i64 0) := KZ.cell 0
      have y1 : w9.cell? ⟨w.heap.size, 1, none⟩ = some (.slice none 0 0) := KZ.cell 1
      have y2 : w9.cell? ⟨w.heap.size, 2, none⟩ = some (.slice none 0 0) := KZ.cell 2
      clear hw9 KZ
      refine bodyPost_ret (v := .tuple #[.agg #[.int .i64 0, .slice none 0 0, .slice none 0 0], .bool false]) (by simp [results, Try.results33, go_sem, y0, y1, y2]) rfl ?_
      exact ⟨rfl, BZ⟩
  · have g0 : decide ((n : Int) < 3) = true := by rw [decide_eq_true_eq]; omega
    clear HF
    go_wp2_with fail
    obtain ⟨w9, hw9⟩ : ∃ w9, (((w1).setCell ⟨w.heap.size, 0, none⟩ (.int .i64 0)).setCell ⟨w.heap.size, 1, none⟩ (.slice none 0 0)).setCell ⟨w.heap.size, 2, none⟩ (.slice none 0 0) = w9 := ⟨_, rfl⟩
    rw [hw9]
    have KZ : Blk w9 w.heap.size 30 #[.int .i64 0, .slice none 0 0, .slice none 0 0] := by rw [← hw9]; exact (((K1.out.set_ 0 _).set_ 1 _).set_ 2 _)
    have BZ : Below w.heap.size w w9 := by rw [← hw9]; exact ((E1.out.setCell (by simp) _).setCell (by simp) _).setCell (by simp) _
    have y0 : w9.cell? ⟨w.heap.size, 0, none⟩ = some (.int .i64 0) := KZ.cell 0
    have y1 : w9.cell? ⟨w.heap.size, 1, none⟩ = some (.slice none 0 0) := KZ.cell 1
    have y2 : w9.cell? ⟨w.heap.size, 2, none⟩ = some (.slice none 0 0) := KZ.cell 2
    clear hw9 KZ
    refine bodyPost_ret (v := .tuple #[.agg #[.int .i64 0, .slice none 0 0, .slice none 0 0], .bool false]) (by simp [results, Try.results33, go_sem, y0, y1, y2]) rfl ?_
    exact ⟨rfl, BZ⟩
set_option maxHeartbeats 8000000 in
set_option maxRecDepth 100000 in
theorem l16ConfigA_c (g : Nat) (sy st e : Int) (RA : Option Addr) (rn rc : Nat) (rs : List Rule3) (A : Option Addr) (n c : Nat) (ws : List Int) (X : Option (Int × List Int × List Int)) (w : World) (hM : MachP w g sy st RA rn rc rs) (h : RdI w A n ws) (hs : 2 ≤ sy ∧ sy ≤ 6) (ht : 1 ≤ st ∧ st ≤ 1000) (he : e = sy + st) (hn : n ≤ 100000) (hnc : n ≤ c) (hf : frameB e ws = true) (hw : ∀ x ∈ ws, 0 ≤ x ∧ x ≤ 100000) (hX : cfgS sy e ws = X) :
    Calls Try.prog 33 #[.pointer (some ⟨g, 0, none⟩), .slice A n c] w (CfOut st sy X w) := by
  have hl := h.len
  have hf' := hf
  simp only [frameB, Bool.and_eq_true, decide_eq_true_eq, hl] at hf'
  obtain ⟨⟨h3, q1⟩, q2⟩ := hf'
  rw [cfgS, if_pos hf, ← midW_one] at hX
  obtain ⟨w0, hw0⟩ : ∃ w0, w.alloc (.cells #[.int .i64 0, .slice none 0 0, .slice none 0 0] 30) = w0 := ⟨_, rfl⟩
  have E0 := Lib.hid (show Below w.heap.size w w0 by rw [← hw0]; exact below_size.alloc (Nat.le_refl _) _)
  have KC := Lib.hid (show Blk w0 w.heap.size 30 #[.int .i64 0, .slice none 0 0, .slice none 0 0] by rw [← hw0]; exact Blk.new _ _ _)
  have H := Lib.hid (RdI.below h E0.out); have HM := Lib.hid (hM.below E0.out)
  have HX := Lib.hid hX; have HEE := Lib.hid he; have HL := Lib.hid hl; have HWS := Lib.hid hw
  have g0 : decide ((n : Int) < 3) = false := by rw [decide_eq_false_iff_not]; omega
  obtain ⟨ad, x, rfl, _, hx, hc0⟩ := RdI.at_ H.out (k := 0) (by omega)
  obtain ⟨_, y, e1, _, hy, hc9⟩ := RdI.at_ H.out (k := n - 1) (by omega)
  injection e1 with e1; subst e1
  rw [show ad.add 0 = ad by cases ad; rfl] at hc0
  have g2 : ((n : Int) - 1).toNat = n - 1 := by omega
  have b1 : (x != e) = false := by rw [hx] at q1; injection q1 with q1; simp [q1]
  have b2 : (y != e) = false := by rw [hy] at q2; injection q2 with q2; simp [q2]
  clear h hM hf he hX hx hy q1 q2 hl hw
  go_enter Try.func33, Try.ntmps33
  go_wp2_with fail
  refine (l16Border_c g sy st e RA rn rc rs w0 HM.out hs ht HEE.out).mono ?_
  rintro e' w' ⟨rfl, ⟨j, rfl⟩⟩
  have E1 := Lib.hid (show Below w.heap.size w (w0.drewN j) from below_drewN E0.out j)
  have K1 := Lib.hid (show Blk (w0.drewN j) w.heap.size 30 #[.int .i64 0, .slice none 0 0, .slice none 0 0] from KC.out.drewN j)
  have H1 := Lib.hid (show RdI (w0.drewN j) (some ad) n ws from H.out)
  have HM1 := Lib.hid (show MachP (w0.drewN j) g sy st RA rn rc rs from HM.out.drewN j)
  have hd0 : (w0.drewN j).cell? ad = some (.int .i64 x) := hc0
  have hd9 : (w0.drewN j).cell? (ad.add (n - 1)) = some (.int .i64 y) := hc9
  obtain ⟨w1, hw1⟩ : ∃ w1, w0.drewN j = w1 := ⟨_, rfl⟩
  rw [hw1] at E1 K1 H1 HM1 hd0 hd9 ⊢
  clear hw0 hw1 hc0 hc9 H HM KC E0
  go_wp2_with fail
  clear hd0 hd9 b1 b2 g0 g2
  go_loopw [8, 9] (fun av iv wr => ∃ (a : Int) (i : Nat), 1 ≤ i ∧ i + 1 ≤ n ∧ iv = .int .i64 i ∧ av = .int .i64 a ∧ -1 ≤ a ∧ a < i ∧ (0 ≤ a → 1 ≤ a) ∧ Hid (cfgK sy ws (scanW sy e (midW ws i) i a) = X) ∧ Below w1.heap.size w1 wr) (fun _ iv _ => n - (intOf iv).toNat)
  case atStart => exact ⟨-1, 1, by omega, by omega, rfl, rfl, by omega, by omega, by omega, HX.out, below_size⟩
  case round =>
    clear HX
    obtain ⟨a, i, hi, hin, rfl, rfl, ha0, ha1, ha2, hr, hb⟩ := hrel
    have Er := Lib.hid (show Below w.heap.size w wr from below_chain E1.out E1.out.size hb)
    have Kr := Lib.hid (show Blk wr w.heap.size 30 #[.int .i64 0, .slice none 0 0, .slice none 0 0] from K1.out.keep hb)
    have Hr := Lib.hid (show RdI wr (some ad) n ws from RdI.below H1.out hb)
    have HMr := Lib.hid (show MachP wr g sy st RA rn rc rs from HM1.out.below hb)
    have HB := Lib.hid hb
    clear hb
    have v1 : IntKind.i64.wrap ((n : Int) - 1) = (n : Int) - 1 := IntWalk.i64_in _ (by omega)
    have k0 := HMr.out.c0
    by_cases hlt : i + 1 < n
    · obtain ⟨_, y, e1, _, hy, hcy⟩ := RdI.at_ Hr.out (k := i) (by omega)
      injection e1 with e1; subst e1
      have gl : decide ((i : Int) < (n : Int) - 1) = true := by rw [decide_eq_true_eq]; omega
      have hlt2 : i < n := by omega
      have HS := Lib.hid (show cfgK sy ws (if sy ≤ y ∧ (0 ≤ a ∨ e ≤ y) then none else scanW sy e (midW ws (i + 1)) (i + 1) (if sy ≤ y then i else a)) = X by
        rw [← hr.out, midW_at hy (by rw [HL.out]; exact hlt), scanW])
      clear hr hy
      by_cases c1 : sy ≤ y
      · have d1 : decide (sy ≤ y) = true := by rw [decide_eq_true_eq]; exact c1
        by_cases c2 : 0 ≤ a ∨ e ≤ y
        · have HXn := Lib.hid (show none = X by rw [← HS.out, if_pos ⟨c1, c2⟩]; rfl)
          clear HS c1
          by_cases c3 : 0 ≤ a
          · have d2 : decide (0 ≤ a) = true := by rw [decide_eq_true_eq]; exact c3
            go_wp2_with fail
            go_quiet (fail)
            obtain ⟨w7, hw7⟩ : ∃ w7, wr.drewN nq = w7 := ⟨_, rfl⟩
            have E7 := Lib.hid (show Below w.heap.size w w7 by rw [← hw7]; exact below_drewN Er.out _)
            have K7 := Lib.hid (show Blk w7 w.heap.size 30 #[.int .i64 0, .slice none 0 0, .slice none 0 0] by rw [← hw7]; exact Kr.out.drewN _)
            rw [hw7]
            have z0 : w7.cell? ⟨w.heap.size, 0, none⟩ = some (.int .i64 0) := K7.out.cell 0
            have z1 : w7.cell? ⟨w.heap.size, 1, none⟩ = some (.slice none 0 0) := K7.out.cell 1
            have z2 : w7.cell? ⟨w.heap.size, 2, none⟩ = some (.slice none 0 0) := K7.out.cell 2
            have f0 := K7.out.frozen 0; have f1 := K7.out.frozen 1; have f2 := K7.out.frozen 2
            go_wp2_with fail
            rw [← HXn.out]
            obtain ⟨w9, hw9⟩ : ∃ w9, (((w7).setCell ⟨w.heap.size, 0, none⟩ (.int .i64 0)).setCell ⟨w.heap.size, 1, none⟩ (.slice none 0 0)).setCell ⟨w.heap.size, 2, none⟩ (.slice none 0 0) = w9 := ⟨_, rfl⟩
            rw [hw9]
            have KZ : Blk w9 w.heap.size 30 #[.int .i64 0, .slice none 0 0, .slice none 0 0] := by rw [← hw9]; exact (((K7.out.set_ 0 _).set_ 1 _).set_ 2 _)
            have BZ : Below w.heap.size w w9 := by rw [← hw9]; exact ((E7.out.setCell (by simp) _).setCell (by simp) _).setCell (by simp) _
            have y0 : w9.cell? ⟨w.heap.size, 0, none⟩ = some (.int .i64 0) := KZ.cell 0
            have y1 : w9.cell? ⟨w.heap.size, 1, none⟩ = some (.slice none 0 0) := KZ.cell 1
            have y2 : w9.cell? ⟨w.heap.size, 2, none⟩ = some (.slice none 0 0) := KZ.cell 2
            clear hw9 KZ
            refine bodyPost_ret (v := .tuple #[.agg #[.int .i64 0, .slice none 0 0, .slice none 0 0], .bool false]) (by simp [results, Try.results33, go_sem, y0, y1, y2]) rfl ?_
            exact ⟨rfl, BZ⟩
          · have d2 : decide (0 ≤ a) = false := by rw [decide_eq_false_iff_not]; exact c3
            have d3 : decide (e ≤ y) = true := by rw [decide_eq_true_eq]; exact c2.resolve_left c3
            go_wp2_with fail
            go_quiet (fail)
            obtain ⟨w7, hw7⟩ : ∃ w7, wr.drewN nq = w7 := ⟨_, rfl⟩
            have E7 := Lib.hid (show Below w.heap.size w w7 by rw [← hw7]; exact below_drewN Er.out _)
            have K7 := Lib.hid (show Blk w7 w.heap.size 30 #[.int .i64 0, .slice none 0 0, .slice none 0 0] by rw [← hw7]; exact Kr.out.drewN _)
            rw [hw7]
            have z0 : w7.cell? ⟨w.heap.size, 0, none⟩ = some (.int .i64 0) := K7.out.cell 0
            have z1 : w7.cell? ⟨w.heap.size, 1, none⟩ = some (.slice none 0 0) := K7.out.cell 1
            have z2 : w7.cell? ⟨w.heap.size, 2, none⟩ = some (.slice none 0 0) := K7.out.cell 2
            have f0 := K7.out.frozen 0; have f1 := K7.out.frozen 1; have f2 := K7.out.frozen 2
            go_wp2_with fail
            rw [← HXn.out]
            obtain ⟨w9, hw9⟩ : ∃ w9, (((w7).setCell ⟨w.heap.size, 0, none⟩ (.int .i64 0)).setCell ⟨w.heap.size, 1, none⟩ (.slice none 0 0)).setCell ⟨w.heap.size, 2, none⟩ (.slice none 0 0) = w9 := ⟨_, rfl⟩
            rw [hw9]
            have KZ : Blk w9 w.heap.size 30 #[.int .i64 0, .slice none 0 0, .slice none 0 0] := by rw [← hw9]; exact (((K7.out.set_ 0 _).set_ 1 _).set_ 2 _)
            have BZ : Below w.heap.size w w9 := by rw [← hw9]; exact ((E7.out.setCell (by simp) _).setCell (by simp) _).setCell (by simp) _
            have y0 : w9.cell? ⟨w.heap.size, 0, none⟩ = some (.int .i64 0) := KZ.cell 0
            have y1 : w9.cell? ⟨w.heap.size, 1, none⟩ = some (.slice none 0 0) := KZ.cell 1
            have y2 : w9.cell? ⟨w.heap.size, 2, none⟩ = some (.slice none 0 0) := KZ.cell 2
            clear hw9 KZ
            refine bodyPost_ret (v := .tuple #[.agg #[.int .i64 0, .slice none 0 0, .slice none 0 0], .bool false]) (by simp [results, Try.results33, go_sem, y0, y1, y2]) rfl ?_
            exact ⟨rfl, BZ⟩
        · have HN := Lib.hid (show cfgK sy ws (scanW sy e (midW ws (i + 1)) (i + 1) i) = X by rw [← HS.out, if_neg (fun h => c2 h.2), if_pos c1])
          have d2 : decide (0 ≤ a) = false := by rw [decide_eq_false_iff_not]; omega
          have d3 : decide (e ≤ y) = false := by rw [decide_eq_false_iff_not]; omega
          clear HS c1 c2
          go_wp2_with fail
          go_quiet (fail)
          go_wp2_with fail
          go_quiet (fail)
          go_wp2_with fail
          go_roundw
          case rel => exact ⟨i, i + 1, by omega, by omega, by go_num, rfl, by omega, by omega, by omega, HN.out, below_drewN HB.out _⟩
          case measure => simp [intOf]; omega
      · have d1 : decide (sy ≤ y) = false := by rw [decide_eq_false_iff_not]; exact c1
        have HN := Lib.hid (show cfgK sy ws (scanW sy e (midW ws (i + 1)) (i + 1) a) = X by rw [← HS.out, if_neg (fun h => c1 h.1), if_neg c1])
        clear HS c1
        go_wp2_with fail
        go_quiet (fail)
        go_wp2_with fail
        go_quiet (fail)
        go_wp2_with fail
        go_roundw
        case rel => exact ⟨a, i + 1, by omega, by omega, by go_num, rfl, by omega, by omega, by omega, HN.out, below_drewN HB.out _⟩
        case measure => simp [intOf]; omega
    · have gl : decide ((i : Int) < (n : Int) - 1) = false := by rw [decide_eq_false_iff_not]; omega
      have HN := Lib.hid (show cfgK sy ws (some a) = X by rw [← hr.out, midW_end (by rw [HL.out]; omega)]; rfl)
      clear hr
      by_cases c1 : a < 0
      · have d1 : decide (a < 0) = true := by rw [decide_eq_true_eq]; exact c1
        have HXn := Lib.hid (show none = X by rw [← HN.out, cfgK, if_pos c1])
        have z0 : wr.cell? ⟨w.heap.size, 0, none⟩ = some (.int .i64 0) := Kr.out.cell 0
        have z1 : wr.cell? ⟨w.heap.size, 1, none⟩ = some (.slice none 0 0) := Kr.out.cell 1
        have z2 : wr.cell? ⟨w.heap.size, 2, none⟩ = some (.slice none 0 0) := Kr.out.cell 2
        have f0 := Kr.out.frozen 0; have f1 := Kr.out.frozen 1; have f2 := Kr.out.frozen 2
        clear HN c1
        go_wp2_with fail
        rw [← HXn.out]
        obtain ⟨w9, hw9⟩ : ∃ w9, (((wr).setCell ⟨w.heap.size, 0, none⟩ (.int .i64 0)).setCell ⟨w.heap.size, 1, none⟩ (.slice none 0 0)).setCell ⟨w.heap.size, 2, none⟩ (.slice none 0 0) = w9 := ⟨_, rfl⟩
        rw [hw9]
        have KZ : Blk w9 w.heap.size 30 #[.int .i64 0, .slice none 0 0, .slice none 0 0] := by rw [← hw9]; exact (((Kr.out.set_ 0 _).set_ 1 _).set_ 2 _)
        have BZ : Below w.heap.size w w9 := by rw [← hw9]; exact ((Er.out.setCell (by simp) _).setCell (by simp) _).setCell (by simp) _
        have y0 : w9.cell? ⟨w.heap.size, 0, none⟩ = some (.int .i64 0) := KZ.cell 0
        have y1 : w9.cell? ⟨w.heap.size, 1, none⟩ = some (.slice none 0 0) := KZ.cell 1
        have y2 : w9.cell? ⟨w.heap.size, 2, none⟩ = some (.slice none 0 0) := KZ.cell 2
        clear hw9 KZ
        refine bodyPost_ret (v := .tuple #[.agg #[.int .i64 0, .slice none 0 0, .slice none 0 0], .bool false]) (by simp [results, Try.results33, go_sem, y0, y1, y2]) rfl ?_
        exact ⟨rfl, BZ⟩
      · have d1 : decide (a < 0) = false := by rw [decide_eq_false_iff_not]; exact c1
        obtain ⟨a, rfl⟩ := Int.eq_ofNat_of_zero_le (show 0 ≤ a by omega)
        have ha3 : 1 ≤ a := by omega
        have ha4 : a + 2 ≤ n := by omega
        obtain ⟨_, x, e1, _, hx, hcx⟩ := RdI.at_ Hr.out (k := a) (by omega)
        injection e1 with e1; subst e1
        have hxb := HWS.out x (List.mem_of_getElem? hx)
        obtain ⟨L0, hL0⟩ : ∃ L0, (ws.drop 1).take (a - 1) = L0 := ⟨_, rfl⟩
        obtain ⟨M0, hM0⟩ : ∃ M0, (ws.drop (a + 1)).take (n - 1 - (a + 1)) = M0 := ⟨_, rfl⟩
        obtain ⟨L, hLt⟩ : ∃ L, trimL L0.reverse = L := ⟨_, rfl⟩
        obtain ⟨M, hMt⟩ : ∃ M, trimL M0 = M := ⟨_, rfl⟩
        have HX2 := Lib.hid (show some (x - sy, L, M) = X by
          rw [← HN.out, cfgK, if_neg (by omega), Int.toNat_natCast, cfgA, hx, Option.getD_some, HL.out, hL0, hM0, hLt, hMt])
        have HLt := Lib.hid hLt; have HMt := Lib.hid hMt
        obtain ⟨w3, hw3⟩ : ∃ w3, wr = w3 := ⟨_, rfl⟩
        have HL0 := Lib.hid (show RdI w3 (some ⟨ad.block, ad.off + 1, none⟩) (a - 1) L0 by
          rw [← hw3, ← hL0]
          have := RdI.mid Hr.out (i := 1) (k := a - 1) (by omega)
          rw [Addr.add, if_neg (by omega)] at this
          exact this)
        have HM0 := Lib.hid (show RdI w3 (some (ad.add (a + 1))) (n - 1 - (a + 1)) M0 by
          rw [← hw3, ← hM0]
          exact RdI.mid Hr.out (i := a + 1) (k := n - 1 - (a + 1)) (by omega))
        have hLl : L.length ≤ 1000000 := by have h1 := trimL_len L0.reverse; rw [hLt, List.length_reverse, HL0.out.len] at h1; omega
        have hMl : M.length ≤ 1000000 := by have h1 := trimL_len M0; rw [hMt, HM0.out.len] at h1; omega
        have v2 : IntKind.i64.wrap ((a : Int) + 1) = (a : Int) + 1 := IntWalk.i64_in _ (by omega)
        have v3 : IntKind.i64.wrap (x - sy) = x - sy := IntWalk.i64_in _ (by omega)
        have v4 : ((a : Int) + 1).toNat = a + 1 := by omega
        have v5 : ((n : Int) - 1).toNat = n - 1 := by omega
        rw [hw3] at Er Kr HMr hcx k0 ⊢
        have HCX := Lib.hid hcx; have HC0 := Lib.hid k0
        clear HN Hr hx hL0 hM0 hLt hMt hw3 hcx k0 c1 ha0 ha1 ha2 K1 H1 HM1 E1
        go_wp2_with fail
        have EW : ∀ w1, Below w3.drew.heap.size w3.drew w1 → Below w3.heap.size w3 w1 := fun w1 hb => below_of_drew hb
        -- region
        refine MixA.wp_facts 23 [75, 76, 77, 78, 79, 80, 81, 82, 83, 84, 85, 86, 87, 88, 89, 90, 91, 92, 93, 94, 95, 96, 10] [[], [], [0, 1], [2], [], [4], [5], [6], [3, 7], [], [], [9, 10], [11], [12], [], [], [15], [], [17], [14, 16, 18], [19], [8, 13, 20], []]
          [MixA.fP (.slice (some ad) n c),
           MixA.fP (.int .i64 a),
           MixA.fP (.pointer (some (ad.add a))),
           MixA.fP (.int .i64 x),
           MixA.fP (.pointer (some ⟨g, 0, none⟩)),
           MixA.fP (.pointer (some ⟨g, 0, none⟩)),
           MixA.fP (.pointer (some ⟨g, 0, none⟩)),
           MixA.fP (.int .i64 sy),
           MixA.fP (.int .i64 (x - sy)),
           MixA.fP (.slice (some ad) n c),
           MixA.fP (.int .i64 a),
           MixA.fP (.slice (some ⟨ad.block, ad.off + 1, none⟩) (a - 1) (c - 1)),
           fOk (a - 1) L0.reverse,
           MixA.fO L.length L,
           MixA.fP (.slice (some ad) n c),
           MixA.fP (.int .i64 a),
           MixA.fP (.int .i64 ((a : Int) + 1)),
           MixA.fP (.int .i64 n),
           MixA.fP (.int .i64 ((n : Int) - 1)),
           MixA.fP (.slice (some (ad.add (a + 1))) (n - 1 - (a + 1)) (c - (a + 1))),
           MixA.fO M.length M,
           (fun l v _ _ _ => v = .agg #[.int .i64 (x - sy), l.getD 1 undef, l.getD 2 undef]),
           MixA.fB 30 #[i64 0, .slice none 0 0, .slice none 0 0]]
          (by kernel_rfl) (by kernel_rfl) (fun t ht => Nat.lt_of_lt_of_eq (show t < 100 by revert t; decide) rfl) ?_ ?_
        · intro f hf
          simp only [List.mem_cons, List.not_mem_nil, or_false] at hf
          rcases hf with rfl | rfl | rfl | rfl | rfl | rfl | rfl | rfl | rfl | rfl | rfl | rfl | rfl | rfl | rfl | rfl | rfl | rfl | rfl | rfl | rfl | rfl | rfl
          · exact MixA.fP_st _
          · exact MixA.fP_st _
          · exact MixA.fP_st _
          · exact MixA.fP_st _
          · exact MixA.fP_st _
          · exact MixA.fP_st _
          · exact MixA.fP_st _
          · exact MixA.fP_st _
          · exact MixA.fP_st _
          · exact MixA.fP_st _
          · exact MixA.fP_st _
          · exact MixA.fP_st _
          · exact fOk_st _ _
          · exact MixA.fO_st _ _
          · exact MixA.fP_st _
          · exact MixA.fP_st _
          · exact MixA.fP_st _
          · exact MixA.fP_st _
          · exact MixA.fP_st _
          · exact MixA.fP_st _
          · exact MixA.fO_st _ _
          · exact (fun _ _ _ _ _ _ _ h => h)
          · exact MixA.fB_st _ _
        simp only [MixA.EachF]
        refine ⟨?_, ?_, ?_, ?_, ?_, ?_, ?_, ?_, ?_, ?_, ?_, ?_, ?_, ?_, ?_, ?_, ?_, ?_, ?_, ?_, ?_, ?_, ?_, ?_⟩
        · intro a1 w1 hf
          refine MixA.hop ⟨#[undef, (.slice (some ad) n c), undef, undef, undef, undef, undef, undef, undef, undef, undef, undef, undef, undef, undef, undef, undef, undef, undef, undef, undef, undef, undef, undef, undef, undef, undef, undef, undef, undef, undef, undef, undef, undef, undef, undef, undef, undef, undef, undef, undef, undef, undef, undef, undef, undef, undef, undef, undef, undef, undef, undef, undef, undef, undef, undef, undef, undef, undef, undef, undef, undef, undef, undef, undef, undef, undef, undef, undef, undef, undef, undef, undef, undef, undef, undef], []⟩ (by intro cs b e; cases e) rfl (show 75 < 76 by decide) ?_ ?_
          · intro x hx
            simp [Op.operands] at hx
            rcases hx with rfl
            · exact (hf.was (t := 1) (by decide) rfl).trans rfl
          go_wp2_with fail
          first | exact ⟨below_size, rfl⟩ | exact ⟨_, rfl, below_size, rfl⟩
        · intro a1 w1 hf
          refine MixA.hop ⟨#[undef, undef, undef, undef, undef, undef, undef, undef, (.int .i64 a), undef, undef, undef, undef, undef, undef, undef, undef, undef, undef, undef, undef, undef, undef, undef, undef, undef, undef, undef, undef, undef, undef, undef, undef, undef, undef, undef, undef, undef, undef, undef, undef, undef, undef, undef, undef, undef, undef, undef, undef, undef, undef, undef, undef, undef, undef, undef, undef, undef, undef, undef, undef, undef, undef, undef, undef, undef, undef, undef, undef, undef, undef, undef, undef, undef, undef, undef, undef], []⟩ (by intro cs b e; cases e) rfl (show 76 < 77 by decide) ?_ ?_
          · intro x hx
            simp [Op.operands] at hx
            rcases hx with rfl
            · exact (hf.was (t := 8) (by decide) rfl).trans rfl
          go_wp2_with fail
          first | exact ⟨below_size, rfl⟩ | exact ⟨_, rfl, below_size, rfl⟩
        · intro a1 w1 hf
          refine MixA.hop ⟨#[undef, undef, undef, undef, undef, undef, undef, undef, undef, undef, undef, undef, undef, undef, undef, undef, undef, undef, undef, undef, undef, undef, undef, undef, undef, undef, undef, undef, undef, undef, undef, undef, undef, undef, undef, undef, undef, undef, undef, undef, undef, undef, undef, undef, undef, undef, undef, undef, undef, undef, undef, undef, undef, undef, undef, undef, undef, undef, undef, undef, undef, undef, undef, undef, undef, undef, undef, undef, undef, undef, undef, undef, undef, undef, undef, (.slice (some ad) n c), (.int .i64 a), undef], []⟩ (by intro cs b e; cases e) rfl (show 77 < 78 by decide) ?_ ?_
          · intro x hx
            simp [Op.operands] at hx
            rcases hx with rfl | rfl
            · exact (hf.pure (j := 0) (by decide) rfl).trans rfl
            · exact (hf.pure (j := 1) (by decide) rfl).trans rfl
          go_wp2_with fail
          first | exact ⟨below_size, rfl⟩ | exact ⟨_, rfl, below_size, rfl⟩
        · intro a1 w1 hf
          have E1 := EW w1 hf.below
          have hc := keepc E1 HCX.out
          clear E1
          refine MixA.hop ⟨#[undef, undef, undef, undef, undef, undef, undef, undef, undef, undef, undef, undef, undef, undef, undef, undef, undef, undef, undef, undef, undef, undef, undef, undef, undef, undef, undef, undef, undef, undef, undef, undef, undef, undef, undef, undef, undef, undef, undef, undef, undef, undef, undef, undef, undef, undef, undef, undef, undef, undef, undef, undef, undef, undef, undef, undef, undef, undef, undef, undef, undef, undef, undef, undef, undef, undef, undef, undef, undef, undef, undef, undef, undef, undef, undef, undef, undef, (.pointer (some (ad.add a))), undef], []⟩ (by intro cs b e; cases e) rfl (show 78 < 79 by decide) ?_ ?_
          · intro x hx
            simp [Op.operands] at hx
            rcases hx with rfl
            · exact (hf.pure (j := 2) (by decide) rfl).trans rfl
          go_wp2_with fail
          first | exact ⟨below_size, rfl⟩ | exact ⟨_, rfl, below_size, rfl⟩
        · intro a1 w1 hf
          refine MixA.hop ⟨#[(.pointer (some ⟨g, 0, none⟩)), undef, undef, undef, undef, undef, undef, undef, undef, undef, undef, undef, undef, undef, undef, undef, undef, undef, undef, undef, undef, undef, undef, undef, undef, undef, undef, undef, undef, undef, undef, undef, undef, undef, undef, undef, undef, undef, undef, undef, undef, undef, undef, undef, undef, undef, undef, undef, undef, undef, undef, undef, undef, undef, undef, undef, undef, undef, undef, undef, undef, undef, undef, undef, undef, undef, undef, undef, undef, undef, undef, undef, undef, undef, undef, undef, undef, undef, undef, undef], []⟩ (by intro cs b e; cases e) rfl (show 79 < 80 by decide) ?_ ?_
          · intro x hx
            simp [Op.operands] at hx
            rcases hx with rfl
            · exact (hf.was (t := 0) (by decide) rfl).trans rfl
          go_wp2_with fail
          first | exact ⟨below_size, rfl⟩ | exact ⟨_, rfl, below_size, rfl⟩
        · intro a1 w1 hf
          refine MixA.hop ⟨#[undef, undef, undef, undef, undef, undef, undef, undef, undef, undef, undef, undef, undef, undef, undef, undef, undef, undef, undef, undef, undef, undef, undef, undef, undef, undef, undef, undef, undef, undef, undef, undef, undef, undef, undef, undef, undef, undef, undef, undef, undef, undef, undef, undef, undef, undef, undef, undef, undef, undef, undef, undef, undef, undef, undef, undef, undef, undef, undef, undef, undef, undef, undef, undef, undef, undef, undef, undef, undef, undef, undef, undef, undef, undef, undef, undef, undef, undef, undef, (.pointer (some ⟨g, 0, none⟩)), undef], []⟩ (by intro cs b e; cases e) rfl (show 80 < 81 by decide) ?_ ?_
          · intro x hx
            simp [Op.operands] at hx
            rcases hx with rfl
            · exact (hf.pure (j := 4) (by decide) rfl).trans rfl
          go_wp2_with fail
          first | exact ⟨below_size, rfl⟩ | exact ⟨_, rfl, below_size, rfl⟩
        · intro a1 w1 hf
          refine MixA.hop ⟨#[undef, undef, undef, undef, undef, undef, undef, undef, undef, undef, undef, undef, undef, undef, undef, undef, undef, undef, undef, undef, undef, undef, undef, undef, undef, undef, undef, undef, undef, undef, undef, undef, undef, undef, undef, undef, undef, undef, undef, undef, undef, undef, undef, undef, undef, undef, undef, undef, undef, undef, undef, undef, undef, undef, undef, undef, undef, undef, undef, undef, undef, undef, undef, undef, undef, undef, undef, undef, undef, undef, undef, undef, undef, undef, undef, undef, undef, undef, undef, undef, (.pointer (some ⟨g, 0, none⟩)), undef], []⟩ (by intro cs b e; cases e) rfl (show 81 < 82 by decide) ?_ ?_
          · intro x hx
            simp [Op.operands] at hx
            rcases hx with rfl
            · exact (hf.pure (j := 5) (by decide) rfl).trans rfl
          go_wp2_with fail
          first | exact ⟨below_size, rfl⟩ | exact ⟨_, rfl, below_size, rfl⟩
        · intro a1 w1 hf
          have E1 := EW w1 hf.below
          have hc := keepc E1 HC0.out
          clear E1
          refine MixA.hop ⟨#[undef, undef, undef, undef, undef, undef, undef, undef, undef, undef, undef, undef, undef, undef, undef, undef, undef, undef, undef, undef, undef, undef, undef, undef, undef, undef, undef, undef, undef, undef, undef, undef, undef, undef, undef, undef, undef, undef, undef, undef, undef, undef, undef, undef, undef, undef, undef, undef, undef, undef, undef, undef, undef, undef, undef, undef, undef, undef, undef, undef, undef, undef, undef, undef, undef, undef, undef, undef, undef, undef, undef, undef, undef, undef, undef, undef, undef, undef, undef, undef, undef, (.pointer (some ⟨g, 0, none⟩)), undef], []⟩ (by intro cs b e; cases e) rfl (show 82 < 83 by decide) ?_ ?_
          · intro x hx
            simp [Op.operands] at hx
            rcases hx with rfl
            · exact (hf.pure (j := 6) (by decide) rfl).trans rfl
          go_wp2_with fail
          first | exact ⟨below_size, rfl⟩ | exact ⟨_, rfl, below_size, rfl⟩
        · intro a1 w1 hf
          refine MixA.hop ⟨#[undef, undef, undef, undef, undef, undef, undef, undef, undef, undef, undef, undef, undef, undef, undef, undef, undef, undef, undef, undef, undef, undef, undef, undef, undef, undef, undef, undef, undef, undef, undef, undef, undef, undef, undef, undef, undef, undef, undef, undef, undef, undef, undef, undef, undef, undef, undef, undef, undef, undef, undef, undef, undef, undef, undef, undef, undef, undef, undef, undef, undef, undef, undef, undef, undef, undef, undef, undef, undef, undef, undef, undef, undef, undef, undef, undef, undef, undef, (.int .i64 x), undef, undef, undef, (.int .i64 sy), undef], []⟩ (by intro cs b e; cases e) rfl (show 83 < 84 by decide) ?_ ?_
          · intro x hx
            simp [Op.operands] at hx
            rcases hx with rfl | rfl
            · exact (hf.pure (j := 3) (by decide) rfl).trans rfl
            · exact (hf.pure (j := 7) (by decide) rfl).trans rfl
          go_wp2_with fail
          first | exact ⟨below_size, rfl⟩ | exact ⟨_, rfl, below_size, rfl⟩
        · intro a1 w1 hf
          refine MixA.hop ⟨#[undef, (.slice (some ad) n c), undef, undef, undef, undef, undef, undef, undef, undef, undef, undef, undef, undef, undef, undef, undef, undef, undef, undef, undef, undef, undef, undef, undef, undef, undef, undef, undef, undef, undef, undef, undef, undef, undef, undef, undef, undef, undef, undef, undef, undef, undef, undef, undef, undef, undef, undef, undef, undef, undef, undef, undef, undef, undef, undef, undef, undef, undef, undef, undef, undef, undef, undef, undef, undef, undef, undef, undef, undef, undef, undef, undef, undef, undef, undef, undef, undef, undef, undef, undef, undef, undef, undef, undef], []⟩ (by intro cs b e; cases e) rfl (show 84 < 85 by decide) ?_ ?_
          · intro x hx
            simp [Op.operands] at hx
            rcases hx with rfl
            · exact (hf.was (t := 1) (by decide) rfl).trans rfl
          go_wp2_with fail
          first | exact ⟨below_size, rfl⟩ | exact ⟨_, rfl, below_size, rfl⟩
        · intro a1 w1 hf
          refine MixA.hop ⟨#[undef, undef, undef, undef, undef, undef, undef, undef, (.int .i64 a), undef, undef, undef, undef, undef, undef, undef, undef, undef, undef, undef, undef, undef, undef, undef, undef, undef, undef, undef, undef, undef, undef, undef, undef, undef, undef, undef, undef, undef, undef, undef, undef, undef, undef, undef, undef, undef, undef, undef, undef, undef, undef, undef, undef, undef, undef, undef, undef, undef, undef, undef, undef, undef, undef, undef, undef, undef, undef, undef, undef, undef, undef, undef, undef, undef, undef, undef, undef, undef, undef, undef, undef, undef, undef, undef, undef, undef], []⟩ (by intro cs b e; cases e) rfl (show 85 < 86 by decide) ?_ ?_
          · intro x hx
            simp [Op.operands] at hx
            rcases hx with rfl
            · exact (hf.was (t := 8) (by decide) rfl).trans rfl
          go_wp2_with fail
          first | exact ⟨below_size, rfl⟩ | exact ⟨_, rfl, below_size, rfl⟩
        · intro a1 w1 hf
          refine MixA.hop ⟨#[undef, undef, undef, undef, undef, undef, undef, undef, undef, undef, undef, undef, undef, undef, undef, undef, undef, undef, undef, undef, undef, undef, undef, undef, undef, undef, undef, undef, undef, undef, undef, undef, undef, undef, undef, undef, undef, undef, undef, undef, undef, undef, undef, undef, undef, undef, undef, undef, undef, undef, undef, undef, undef, undef, undef, undef, undef, undef, undef, undef, undef, undef, undef, undef, undef, undef, undef, undef, undef, undef, undef, undef, undef, undef, undef, undef, undef, undef, undef, undef, undef, undef, undef, undef, (.slice (some ad) n c), (.int .i64 a), undef], []⟩ (by intro cs b e; cases e) rfl (show 86 < 87 by decide) ?_ ?_
          · intro x hx
            simp [Op.operands] at hx
            rcases hx with rfl | rfl | rfl
            · exact (hf.pure (j := 9) (by decide) rfl).trans rfl
            · rfl
            · exact (hf.pure (j := 10) (by decide) rfl).trans rfl
          go_wp2_with fail
          first | exact ⟨below_size, rfl⟩ | exact ⟨_, rfl, below_size, rfl⟩
        · intro a1 w1 hf
          have E1 := EW w1 hf.below
          have HQ := Lib.hid (RdI.below HL0.out E1)
          clear E1
          refine MixA.hop ⟨#[undef, undef, undef, undef, undef, undef, undef, undef, undef, undef, undef, undef, undef, undef, undef, undef, undef, undef, undef, undef, undef, undef, undef, undef, undef, undef, undef, undef, undef, undef, undef, undef, undef, undef, undef, undef, undef, undef, undef, undef, undef, undef, undef, undef, undef, undef, undef, undef, undef, undef, undef, undef, undef, undef, undef, undef, undef, undef, undef, undef, undef, undef, undef, undef, undef, undef, undef, undef, undef, undef, undef, undef, undef, undef, undef, undef, undef, undef, undef, undef, undef, undef, undef, undef, undef, undef, (.slice (some ⟨ad.block, ad.off + 1, none⟩) (a - 1) (c - 1)), undef], []⟩ (by intro cs b e; cases e) rfl (show 87 < 88 by decide) ?_ ?_
          · intro x hx
            simp [Op.operands, Call.operands] at hx
            rcases hx with rfl | rfl
            · rfl
            · exact (hf.pure (j := 11) (by decide) rfl).trans rfl
          go_wp2_with fail
          refine (l03ReverseK_c _ (a - 1) (c - 1) L0 w1 HQ.out (by omega)).mono ?_
          rintro e' w2 ⟨A2, cap2, rfl, hcp2, hw2, hb2⟩
          have W2 := Lib.hid hw2; have B2 := Lib.hid hb2
          clear hw2 hb2
          go_wp2_with fail
          exact ⟨B2.out, A2, cap2, rfl, hcp2, W2.out⟩
        · intro a1 w1 hf
          obtain ⟨R, hR, _⟩ := hf.facts
          obtain ⟨A87, c87, hv87, hc87, h87⟩ : fOk (a - 1) L0.reverse [] (MixA.val a1 87) (R 12).1 (R 12).2 w1 := (hR 12 (by decide)).1
          have HQ := Lib.hid h87.rdI
          clear hR h87
          refine MixA.hop ⟨#[undef, undef, undef, undef, undef, undef, undef, undef, undef, undef, undef, undef, undef, undef, undef, undef, undef, undef, undef, undef, undef, undef, undef, undef, undef, undef, undef, undef, undef, undef, undef, undef, undef, undef, undef, undef, undef, undef, undef, undef, undef, undef, undef, undef, undef, undef, undef, undef, undef, undef, undef, undef, undef, undef, undef, undef, undef, undef, undef, undef, undef, undef, undef, undef, undef, undef, undef, undef, undef, undef, undef, undef, undef, undef, undef, undef, undef, undef, undef, undef, undef, undef, undef, undef, undef, undef, undef, (.slice A87 (a - 1) c87), undef], []⟩ (by intro cs b e; cases e) rfl (show 88 < 89 by decide) ?_ ?_
          · intro x hx
            simp [Op.operands, Call.operands] at hx
            rcases hx with rfl | rfl
            · rfl
            · exact hv87.trans rfl
          go_wp2_with fail
          refine (l05Trim_c A87 (a - 1) c87 L0.reverse w1 HQ.out (by omega) hc87).mono ?_
          rintro e' w2 ⟨A2, m2, cap2, rfl, hm2, hmn2, hw2, hb2⟩
          rw [HLt.out] at hm2 hw2
          subst hm2
          have W2 := Lib.hid hw2; have B2 := Lib.hid hb2
          clear hw2 hb2
          go_wp2_with fail
          exact ⟨B2.out, A2, cap2, rfl, W2.out⟩
        · intro a1 w1 hf
          refine MixA.hop ⟨#[undef, (.slice (some ad) n c), undef, undef, undef, undef, undef, undef, undef, undef, undef, undef, undef, undef, undef, undef, undef, undef, undef, undef, undef, undef, undef, undef, undef, undef, undef, undef, undef, undef, undef, undef, undef, undef, undef, undef, undef, undef, undef, undef, undef, undef, undef, undef, undef, undef, undef, undef, undef, undef, undef, undef, undef, undef, undef, undef, undef, undef, undef, undef, undef, undef, undef, undef, undef, undef, undef, undef, undef, undef, undef, undef, undef, undef, undef, undef, undef, undef, undef, undef, undef, undef, undef, undef, undef, undef, undef, undef, undef, undef], []⟩ (by intro cs b e; cases e) rfl (show 89 < 90 by decide) ?_ ?_
          · intro x hx
            simp [Op.operands] at hx
            rcases hx with rfl
            · exact (hf.was (t := 1) (by decide) rfl).trans rfl
          go_wp2_with fail
          first | exact ⟨below_size, rfl⟩ | exact ⟨_, rfl, below_size, rfl⟩
        · intro a1 w1 hf
          refine MixA.hop ⟨#[undef, undef, undef, undef, undef, undef, undef, undef, (.int .i64 a), undef, undef, undef, undef, undef, undef, undef, undef, undef, undef, undef, undef, undef, undef, undef, undef, undef, undef, undef, undef, undef, undef, undef, undef, undef, undef, undef, undef, undef, undef, undef, undef, undef, undef, undef, undef, undef, undef, undef, undef, undef, undef, undef, undef, undef, undef, undef, undef, undef, undef, undef, undef, undef, undef, undef, undef, undef, undef, undef, undef, undef, undef, undef, undef, undef, undef, undef, undef, undef, undef, undef, undef, undef, undef, undef, undef, undef, undef, undef, undef, undef, undef], []⟩ (by intro cs b e; cases e) rfl (show 90 < 91 by decide) ?_ ?_
          · intro x hx
            simp [Op.operands] at hx
            rcases hx with rfl
            · exact (hf.was (t := 8) (by decide) rfl).trans rfl
          go_wp2_with fail
          first | exact ⟨below_size, rfl⟩ | exact ⟨_, rfl, below_size, rfl⟩
        · intro a1 w1 hf
          refine MixA.hop ⟨#[undef, undef, undef, undef, undef, undef, undef, undef, undef, undef, undef, undef, undef, undef, undef, undef, undef, undef, undef, undef, undef, undef, undef, undef, undef, undef, undef, undef, undef, undef, undef, undef, undef, undef, undef, undef, undef, undef, undef, undef, undef, undef, undef, undef, undef, undef, undef, undef, undef, undef, undef, undef, undef, undef, undef, undef, undef, undef, undef, undef, undef, undef, undef, undef, undef, undef, undef, undef, undef, undef, undef, undef, undef, undef, undef, undef, undef, undef, undef, undef, undef, undef, undef, undef, undef, undef, undef, undef, undef, undef, (.int .i64 a), undef], []⟩ (by intro cs b e; cases e) rfl (show 91 < 92 by decide) ?_ ?_
          · intro x hx
            simp [Op.operands] at hx
            rcases hx with rfl | rfl
            · exact (hf.pure (j := 15) (by decide) rfl).trans rfl
            · rfl
          go_wp2_with fail
          first | exact ⟨below_size, rfl⟩ | exact ⟨_, rfl, below_size, rfl⟩
        · intro a1 w1 hf
          refine MixA.hop ⟨#[undef, undef, undef, undef, undef, undef, (.int .i64 n), undef, undef, undef, undef, undef, undef, undef, undef, undef, undef, undef, undef, undef, undef, undef, undef, undef, undef, undef, undef, undef, undef, undef, undef, undef, undef, undef, undef, undef, undef, undef, undef, undef, undef, undef, undef, undef, undef, undef, undef, undef, undef, undef, undef, undef, undef, undef, undef, undef, undef, undef, undef, undef, undef, undef, undef, undef, undef, undef, undef, undef, undef, undef, undef, undef, undef, undef, undef, undef, undef, undef, undef, undef, undef, undef, undef, undef, undef, undef, undef, undef, undef, undef, undef, undef, undef], []⟩ (by intro cs b e; cases e) rfl (show 92 < 93 by decide) ?_ ?_
          · intro x hx
            simp [Op.operands] at hx
            rcases hx with rfl
            · exact (hf.was (t := 6) (by decide) rfl).trans rfl
          go_wp2_with fail
          first | exact ⟨below_size, rfl⟩ | exact ⟨_, rfl, below_size, rfl⟩
        · intro a1 w1 hf
          refine MixA.hop ⟨#[undef, undef, undef, undef, undef, undef, undef, undef, undef, undef, undef, undef, undef, undef, undef, undef, undef, undef, undef, undef, undef, undef, undef, undef, undef, undef, undef, undef, undef, undef, undef, undef, undef, undef, undef, undef, undef, undef, undef, undef, undef, undef, undef, undef, undef, undef, undef, undef, undef, undef, undef, undef, undef, undef, undef, undef, undef, undef, undef, undef, undef, undef, undef, undef, undef, undef, undef, undef, undef, undef, undef, undef, undef, undef, undef, undef, undef, undef, undef, undef, undef, undef, undef, undef, undef, undef, undef, undef, undef, undef, undef, undef, (.int .i64 n), undef], []⟩ (by intro cs b e; cases e) rfl (show 93 < 94 by decide) ?_ ?_
          · intro x hx
            simp [Op.operands] at hx
            rcases hx with rfl | rfl
            · exact (hf.pure (j := 17) (by decide) rfl).trans rfl
            · rfl
          go_wp2_with fail
          first | exact ⟨below_size, rfl⟩ | exact ⟨_, rfl, below_size, rfl⟩
        · intro a1 w1 hf
          refine MixA.hop ⟨#[undef, undef, undef, undef, undef, undef, undef, undef, undef, undef, undef, undef, undef, undef, undef, undef, undef, undef, undef, undef, undef, undef, undef, undef, undef, undef, undef, undef, undef, undef, undef, undef, undef, undef, undef, undef, undef, undef, undef, undef, undef, undef, undef, undef, undef, undef, undef, undef, undef, undef, undef, undef, undef, undef, undef, undef, undef, undef, undef, undef, undef, undef, undef, undef, undef, undef, undef, undef, undef, undef, undef, undef, undef, undef, undef, undef, undef, undef, undef, undef, undef, undef, undef, undef, undef, undef, undef, undef, undef, (.slice (some ad) n c), undef, (.int .i64 ((a : Int) + 1)), undef, (.int .i64 ((n : Int) - 1)), undef], []⟩ (by intro cs b e; cases e) rfl (show 94 < 95 by decide) ?_ ?_
          · intro x hx
            simp [Op.operands] at hx
            rcases hx with rfl | rfl | rfl
            · exact (hf.pure (j := 14) (by decide) rfl).trans rfl
            · exact (hf.pure (j := 16) (by decide) rfl).trans rfl
            · exact (hf.pure (j := 18) (by decide) rfl).trans rfl
          go_wp2_with fail
          first | exact ⟨below_size, rfl⟩ | exact ⟨_, rfl, below_size, rfl⟩
        · intro a1 w1 hf
          have E1 := EW w1 hf.below
          have HQ := Lib.hid (RdI.below HM0.out E1)
          clear E1
          refine MixA.hop ⟨#[undef, undef, undef, undef, undef, undef, undef, undef, undef, undef, undef, undef, undef, undef, undef, undef, undef, undef, undef, undef, undef, undef, undef, undef, undef, undef, undef, undef, undef, undef, undef, undef, undef, undef, undef, undef, undef, undef, undef, undef, undef, undef, undef, undef, undef, undef, undef, undef, undef, undef, undef, undef, undef, undef, undef, undef, undef, undef, undef, undef, undef, undef, undef, undef, undef, undef, undef, undef, undef, undef, undef, undef, undef, undef, undef, undef, undef, undef, undef, undef, undef, undef, undef, undef, undef, undef, undef, undef, undef, undef, undef, undef, undef, undef, (.slice (some (ad.add (a + 1))) (n - 1 - (a + 1)) (c - (a + 1))), undef], []⟩ (by intro cs b e; cases e) rfl (show 95 < 96 by decide) ?_ ?_
          · intro x hx
            simp [Op.operands, Call.operands] at hx
            rcases hx with rfl | rfl
            · rfl
            · exact (hf.pure (j := 19) (by decide) rfl).trans rfl
          go_wp2_with fail
          refine (l05Trim_c (some (ad.add (a + 1))) (n - 1 - (a + 1)) (c - (a + 1)) M0 w1 HQ.out (by omega) (by omega)).mono ?_
          rintro e' w2 ⟨A2, m2, cap2, rfl, hm2, hmn2, hw2, hb2⟩
          rw [HMt.out] at hm2 hw2
          subst hm2
          have W2 := Lib.hid hw2; have B2 := Lib.hid hb2
          clear hw2 hb2
          go_wp2_with fail
          exact ⟨B2.out, A2, cap2, rfl, W2.out⟩
        · intro a1 w1 hf
          obtain ⟨R, hR, _⟩ := hf.facts
          obtain ⟨A88, c88, hv88, _⟩ : MixA.fO L.length L [] (MixA.val a1 88) (R 13).1 (R 13).2 w1 := (hR 13 (by decide)).1
          obtain ⟨A95, c95, hv95, _⟩ : MixA.fO M.length M [] (MixA.val a1 95) (R 20).1 (R 20).2 w1 := (hR 20 (by decide)).1
          have hv83 : MixA.val a1 83 = .int .i64 (x - sy) := (hR 8 (by decide)).1
          clear hR
          refine MixA.hop ⟨#[undef, undef, undef, undef, undef, undef, undef, undef, undef, undef, undef, undef, undef, undef, undef, undef, undef, undef, undef, undef, undef, undef, undef, undef, undef, undef, undef, undef, undef, undef, undef, undef, undef, undef, undef, undef, undef, undef, undef, undef, undef, undef, undef, undef, undef, undef, undef, undef, undef, undef, undef, undef, undef, undef, undef, undef, undef, undef, undef, undef, undef, undef, undef, undef, undef, undef, undef, undef, undef, undef, undef, undef, undef, undef, undef, undef, undef, undef, undef, undef, undef, undef, undef, (.int .i64 (x - sy)), undef, undef, undef, undef, (.slice A88 L.length c88), undef, undef, undef, undef, undef, undef, (.slice A95 M.length c95), undef], []⟩ (by intro cs b e; cases e) rfl (show 96 < 97 by decide) ?_ ?_
          · intro x hx
            simp [Op.operands] at hx
            rcases hx with rfl | rfl | rfl
            · exact (hf.pure (j := 8) (by decide) rfl).trans rfl
            · exact hv88.trans rfl
            · exact hv95.trans rfl
          go_wp2_with fail
          first | exact ⟨below_size, rfl⟩ | exact ⟨_, rfl, below_size, rfl⟩
        · intro a1 w1 hf
          refine MixA.hop ⟨#[undef, undef, undef, undef, undef, undef, undef, undef, undef, undef, undef], []⟩ (by intro cs b e; cases e) rfl (show 10 < 11 by decide) ?_ ?_
          · intro x hx
            simp [Op.operands] at hx
          go_wp2_with fail
          first | exact ⟨below_size.alloc (Nat.le_refl _) _, w1.heap.size, rfl, Nat.le_refl _, by simp, Blk.new w1 _ _⟩ | exact ⟨_, rfl, below_size.alloc (Nat.le_refl _) _, w1.heap.size, rfl, Nat.le_refl _, by simp, Blk.new w1 _ _⟩
        · intro a1 w1 hf
          obtain ⟨R, hR, hdj⟩ := hf.facts
          have hv83 : MixA.val a1 83 = .int .i64 (x - sy) := (hR 8 (by decide)).1
          obtain ⟨A88, c88, hv88, h88⟩ : MixA.fO L.length L [] (MixA.val a1 88) (R 13).1 (R 13).2 w1 := (hR 13 (by decide)).1
          obtain ⟨A95, c95, hv95, h95⟩ : MixA.fO M.length M [] (MixA.val a1 95) (R 20).1 (R 20).2 w1 := (hR 20 (by decide)).1
          have hv96 : MixA.val a1 96 = .agg #[.int .i64 (x - sy), MixA.val a1 88, MixA.val a1 95] := (hR 21 (by decide)).1
          obtain ⟨g10, hv10, l10, r10, h10⟩ : MixA.fB 30 #[i64 0, .slice none 0 0, .slice none 0 0] [] (MixA.val a1 10) (R 22).1 (R 22).2 w1 := (hR 22 (by decide)).1
          rw [hv88, hv95] at hv96
          have b88 := (hR 13 (by decide)).2; have b95 := (hR 20 (by decide)).2; have b10 := (hR 22 (by decide)).2
          have d1 := hdj 13 20 (by decide) (by decide) (by decide)
          have d2 := hdj 13 22 (by decide) (by decide) (by decide)
          have d3 := hdj 20 22 (by decide) (by decide) (by decide)
          have E1 := Lib.hid (EW w1 hf.below)
          have CS := Lib.hid (cfg_store (u0 := .int .i64 (x - sy)) (u1 := .slice A88 L.length c88) (u2 := .slice A95 M.length c95) h88 h95 h10 l10 r10 d1 d2 d3 b88 b95)
          have m0 := h10.cell 0; have m1 := h10.cell 1; have m2 := h10.cell 2
          have f0 := h10.frozen 0; have f1 := h10.frozen 1; have f2 := h10.frozen 2
          simp at m0 m1 m2
          have HG10 := Lib.hid (show w3.heap.size ≤ g10 from Nat.le_trans b10.1 l10)
          rw [hf.act]
          clear hR hdj h88 h95 l10 r10 h10 b88 b95 b10 d1 d2 d3 EW
          simp only [List.foldl_cons, List.foldl_nil, hv83, hv88, hv95, hv96, hv10]
          clear hv83 hv88 hv95 hv96 hv10 hf
          simp only [Act.put, List.setIfInBounds_toArray, List.set_cons_succ, List.set_cons_zero]
          go_wp2_with fail
          have CS2 := CS.out
          obtain ⟨w2, hw2⟩ : ∃ w2, ((w1.setCell ⟨g10, 0, none⟩ (.int .i64 (x - sy))).setCell ⟨g10, 1, none⟩ (.slice A88 L.length c88)).setCell ⟨g10, 2, none⟩ (.slice A95 M.length c95) = w2 := ⟨_, rfl⟩
          have hs2 : w2.heap.size = w1.heap.size := by rw [← hw2]; simp
          have E32 := Lib.hid (show Below w3.heap.size w3 w2 by rw [← hw2]; exact ((E1.out.setCell (by exact HG10.out) _).setCell (by exact HG10.out) _).setCell (by exact HG10.out) _)
          rw [hw2] at CS2 ⊢
          have WS := Lib.hid CS2.1; have KG := Lib.hid CS2.2
          have KR := Lib.hid (Kr.out.keep E32.out)
          have HM2 := Lib.hid (HMr.out.below E32.out)
          have HZS := Lib.hid hs2
          clear hw2 CS2 CS m0 m1 m2 f0 f1 f2 HG10 hs2
          have x0 := Ext.cell (show w2.cell? ⟨g10, 0, none⟩ = some (.int .i64 (x - sy)) from KG.out.cell 0)
          have x1 := Ext.cell (show w2.cell? ⟨g10, 1, none⟩ = some (.slice A88 L.length c88) from KG.out.cell 1)
          have x2 := Ext.cell (show w2.cell? ⟨g10, 2, none⟩ = some (.slice A95 M.length c95) from KG.out.cell 2)
          have z0 := KR.out.cell 0; have z1 := KR.out.cell 1; have z2 := KR.out.cell 2
          have f0 := KR.out.frozen 0; have f1 := KR.out.frozen 1; have f2 := KR.out.frozen 2
          simp at z0 z1 z2
          obtain ⟨q, hq⟩ : ∃ q, confB sy st (x - sy) L M = q := ⟨_, rfl⟩
          have HQ := Lib.hid hq
          clear hq
          go_wp2_with fail
          refine Mix.wp_region_mix [3, 0, 1, 2, 0] (fun w' => ∃ x : Ext w2, w' = x.w) (by kernel_rfl) (by kernel_rfl) (InExt.drew _) ?_
          repeat (first | (refine Mix.wpMix_read (by rfl) ?_; go_big_quiet_step (fail); refine wpQuiet_nil ?_) | (refine Mix.wpMix_pure (by rfl) ?_; go_big_quiet_step (fail); refine wpQuiet_nil ?_))
          refine Mix.wpMix_chg (by rfl) (fun K hK => ?_)
          go_wp2_with fail
          refine (l05Good_c g sy st RA rn rc rs g10 (x - sy) A88 L.length c88 L A95 M.length c95 M q _ (by exact HM2.out.below (below_drew below_size)) (by exact ⟨KG.out.cell 0, KG.out.cell 1, KG.out.cell 2, (WS.out.rd.left).head, (WS.out.rd.right).head⟩) hs ht (by omega) (by omega) HQ.out).mono ?_
          rintro e' w5 ⟨rfl, ⟨m5, rfl⟩⟩
          go_wp2_with fail
          refine hK _ _ ⟨⟨_, below_drewN below_size (1 + m5)⟩, rfl⟩ ?_
          clear hK K
          repeat (first | (refine Mix.wpMix_read (by rfl) ?_; go_big_quiet_step (fail); refine wpQuiet_nil ?_) | (refine Mix.wpMix_pure (by rfl) ?_; go_big_quiet_step (fail); refine wpQuiet_nil ?_))
          refine Mix.wpMix_tail (by rfl) (fun K hK => ?_)
          go_wp2_with fail
          refine hK _ _ ?_
          clear hK K
          repeat (first | (refine Mix.wpMix_read (by rfl) ?_; go_big_quiet_step (fail); refine wpQuiet_nil ?_) | (refine Mix.wpMix_pure (by rfl) ?_; go_big_quiet_step (fail); refine wpQuiet_nil ?_))
          (refine Mix.wpMix_nil ?_; try simp only [Exit.then])
          clear x0 x1 x2
          go_wp2_with fail
          obtain ⟨w9, hw9⟩ : ∃ w9, (((w2.drewN (1 + m5)).setCell ⟨w.heap.size, 0, none⟩ (.int .i64 (x - sy))).setCell ⟨w.heap.size, 1, none⟩ (.slice A88 L.length c88)).setCell ⟨w.heap.size, 2, none⟩ (.slice A95 M.length c95) = w9 := ⟨_, rfl⟩
          have hz3 : w.heap.size < w3.heap.size := Kr.out.lt
          have KZ := Lib.hid (show Blk w9 w.heap.size 30 #[.int .i64 (x - sy), .slice A88 L.length c88, .slice A95 M.length c95] by rw [← hw9]; exact ((((KR.out.drewN (1 + m5)).set_ 0 _).set_ 1 _).set_ 2 _))
          have BZ := Lib.hid (show Below w.heap.size w w9 by rw [← hw9]; exact (((below_drewN (below_chain Er.out Er.out.size E32.out) (1 + m5)).setCell (by simp) _).setCell (by simp) _).setCell (by simp) _)
          have WZ := Lib.hid (show WrS w9 w.heap.size w9.heap.size ([sgI A88 L.length L] ++ [sgI A95 M.length M]) by
            have hs9 : w9.heap.size = w1.heap.size := by rw [← hw9, ← HZS.out]; simp
            rw [hs9, ← hw9]
            exact ((((WS.out.below (below_drewN below_size (1 + m5))).set_far (p := ⟨w.heap.size, 0, none⟩) (.inl hz3) _).set_far (p := ⟨w.heap.size, 1, none⟩) (.inl hz3) _).set_far (p := ⟨w.heap.size, 2, none⟩) (.inl hz3) _).wider (by show w.heap.size ≤ w3.heap.size; omega) (Nat.le_refl _))
          have y0 : w9.cell? ⟨w.heap.size, 0, none⟩ = some (.int .i64 (x - sy)) := KZ.out.cell 0
          have y1 : w9.cell? ⟨w.heap.size, 1, none⟩ = some (.slice A88 L.length c88) := KZ.out.cell 1
          have y2 : w9.cell? ⟨w.heap.size, 2, none⟩ = some (.slice A95 M.length c95) := KZ.out.cell 2
          have hw9' : (((w2.drewN (m5 + 1)).setCell ⟨w.heap.size, 0, none⟩ (.int .i64 (x - sy))).setCell ⟨w.heap.size, 1, none⟩ (.slice A88 L.length c88)).setCell ⟨w.heap.size, 2, none⟩ (.slice A95 M.length c95) = w9 := by rw [Nat.add_comm]; exact hw9
          first | rw [hw9] | rw [hw9']
          refine bodyPost_ret (v := .tuple #[.agg #[.int .i64 (x - sy), .slice A88 L.length c88, .slice A95 M.length c95], .bool q]) (by simp [results, Try.results33, go_sem, y0, y1, y2]) rfl ?_
          rw [← HX2.out]
          exact ⟨A88, c88, A95, c95, by rw [HQ.out], WZ.out, ⟨hLl, hMl⟩, BZ.out⟩
        -- behind the region
theorem l16Config_c (g : Nat) (sy st e : Int) (RA : Option Addr) (rn rc : Nat) (rs : List Rule3) (A : Option Addr) (n c : Nat) (ws : List Int) (X : Option (Int × List Int × List Int)) (w : World) (hM : MachP w g sy st RA rn rc rs) (h : RdI w A n ws) (hs : 2 ≤ sy ∧ sy ≤ 6) (ht : 1 ≤ st ∧ st ≤ 1000) (he : e = sy + st) (hn : n ≤ 100000) (hnc : n ≤ c) (hw : ∀ x ∈ ws, 0 ≤ x ∧ x ≤ 100000) (hX : cfgS sy e ws = X) :
    Calls Try.prog 33 #[.pointer (some ⟨g, 0, none⟩), .slice A n c] w (CfOut st sy X w) := by
  cases hf : frameB e ws
  · have : X = none := by rw [← hX, cfgS, if_neg (by rw [hf]; simp)]
    subst this
    exact l16Config0_c g sy st e RA rn rc rs A n c ws w hM h hs ht he hn hf
  · exact l16ConfigA_c g sy st e RA rn rc rs A n c ws X w hM h hs ht he hn hnc hf hw hX
end Go.Proofs.Ytcbcjhfeidkeaaa
