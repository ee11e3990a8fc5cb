/-
  Contracts of chapter 23: operands.
-/
import Derived.Test.YtbpeagnldgefeaaC23
import Derived.Test.YtbpeagnldgefeaaC02c
namespace Go.Proofs.Ytbpeagnldgefeaa
open Go.RowKit

/-- the part of a slice of expressions from s.1 on, s.2 elements -/
def segV (ad : Addr) (c : Nat) (s : Nat × Nat) : Value := .slice (some (ad.add (s.1 * 2))) s.2 (c - s.1)
def segL (xs : List (Int × Int)) (s : Nat × Nat) : List (Int × Int) := (xs.drop s.1).take s.2
def segSum (xs : List (Int × Int)) : List (Nat × Nat) → Int
  | [] => 0
  | s :: l => sumW (segL xs s) + segSum xs l
theorem segSum_app (xs : List (Int × Int)) : ∀ (a b : List (Nat × Nat)), segSum xs (a ++ b) = segSum xs a + segSum xs b
  | [], b => by simp [segSum]
  | s :: a, b => by simp only [List.cons_append, segSum, segSum_app xs a b]; omega
def SegsOk (xs : List (Int × Int)) (n : Nat) (segs : List (Nat × Nat)) : Prop := ∀ s ∈ segs, 1 ≤ s.1 ∧ s.1 + s.2 ≤ n ∧ scanB 1 (segL xs s) = true
def OpsOut (ad : Addr) (c n N : Nat) (xs : List (Int × Int)) (w : World) (e : Ending) (w' : World) : Prop :=
  ∃ C cc segs, e = .returned (.slice C N cc) ∧ Rd w' C N (segs.map (segV ad c)) ∧ SegsOk xs n segs ∧ sumW (xs.drop 1) = segSum xs segs ∧ Below w.heap.size w w'
theorem scan_pos {l : List (Int × Int)} (h : scanB 1 l = true) : 0 < l.length := by
  cases l with
  | nil => simp [scanB] at h
  | cons x l => simp

theorem info_ExprSl : (Try.prog.info? 58).map (fun i => (i.zero, i.size, i.bytes)) = some (some (.slice none 0 0), 1, 24) := by kernel_rfl
set_option maxHeartbeats 2000000 in
set_option maxRecDepth 100000 in
theorem operands_c (ad : Addr) (n c : Nat) (p q : Int) (l : List (Int × Int)) (w : World) (h : RdE w (some ad) n ((p, q) :: l)) (hn : n ≤ 40) (hnc : n ≤ c) (hs : scanB 1 ((p, q) :: l) = true) :
    Calls Try.prog 96 #[.slice (some ad) n c] w (OpsOut ad c n (manyK p) ((p, q) :: l) w) := by
  obtain ⟨xs, hxs⟩ : ∃ xs, xs = (p, q) :: l := ⟨_, rfl⟩
  have HN := Lib.hid (manyK_le p)
  have HS := Lib.hid (show scanB (manyK p) (xs.drop 1) = true by
    rw [hxs]
    simp only [scanB, Bool.and_eq_true] at hs
    simpa using hs.2.2)
  have HX := Lib.hid (show xs[0]? = some (p, q) by rw [hxs]; rfl)
  rw [← hxs] at h ⊢
  clear hs hxs
  have HL := Lib.hid h.len
  have hn0 : 0 < n := by
    have := HX.out
    have h0 := (List.getElem?_eq_some_iff.1 this).1
    rw [HL.out] at h0; exact h0
  have H := Lib.hid h
  obtain ⟨ad', x, e1, hab, hx, hc0, hc1⟩ := h.at_ hn0
  injection e1 with e1
  subst e1
  rw [HX.out] at hx
  injection hx with hx
  subst hx
  obtain ⟨N, hN⟩ : ∃ N, N = manyK p := ⟨_, rfl⟩
  have ea : ad.add 0 = ad := by simp [Addr.add]
  rw [Nat.zero_mul, ea] at hc0 hc1
  have k0 := fun o => keepa o hc0
  have k1 := fun o => keepa o hc1
  clear ea
  have hNle : N ≤ 2 := by rw [hN]; exact HN.out
  have HM := Lib.hid hN
  clear h hN HN
  go_enter Try.func96, Try.ntmps96
  go_wp2_with fail
  refine (exprFollow_c _ _ _).mono ?_
  rintro e w1 ⟨rfl, hb1⟩
  rw [← HM.out]
  have HS' := Lib.hid (show scanB N (xs.drop 1) = true by rw [HM.out]; exact HS.out)
  have BB := Lib.hid (up1 hb1)
  have O1 := Lib.hid ((Own.lit (w := w) (e := 58) (Nat.le_refl _)).keep hb1)
  clear hb1
  go_wp2
  go_loopw [3, 4, 11] (fun v fv iv wr => ∃ (j f : Nat) (C : Option Addr) (cc : Nat) (segs : List (Nat × Nat)), v = .slice C j cc ∧ fv = .int .i64 f ∧ iv = .int .i64 j ∧ j ≤ N ∧ 1 ≤ f ∧ f ≤ n ∧ Hid (scanB (N - j) (xs.drop f) = true) ∧
    Hid (sumW (xs.drop 1) = segSum xs segs + sumW (xs.drop f)) ∧ Hid (SegsOk xs n segs) ∧ Own wr w.heap.size 58 1 C j cc (segs.map (segV ad c)) ∧ Below w.heap.size w wr) (fun _ _ iv _ => N - (intOf iv).toNat)
  case atStart => exact ⟨0, 1, _, 0, [], rfl, rfl, rfl, by omega, by omega, by omega, HS'.out, by simp [Hid, segSum], by intro s hs; simp at hs, O1.out, BB.out⟩
  case round =>
    obtain ⟨j, f, C, cc, segs, rfl, rfl, rfl, hj, hf1, hfn, h1, h2, h3, own, hb⟩ := hrel
    have HO := Lib.hid own; have HB := Lib.hid hb
    by_cases hlt : j < N
    · obtain ⟨l1, l2, hl, s1, s2⟩ := scan_split (xs.drop f) 1 (N - (j + 1)) (by rw [show 1 + (N - (j + 1)) = N - j by omega]; exact h1.out)
      obtain ⟨m, hm⟩ : ∃ m, m = l1.length := ⟨_, rfl⟩
      have hlen : f + m ≤ n := by
        have := congrArg List.length hl
        rw [List.length_drop, HL.out, List.length_append] at this
        have := scan_pos s1
        omega
      have hm0 : 0 < m := by rw [hm]; exact scan_pos s1
      have hseg : segL xs (f, m) = l1 := by simp [segL, hl, hm]
      have hd : xs.drop (f + m) = l2 := by rw [← List.drop_drop, hl, hm]; simp
      have HE := Lib.hid (show endX 1 f (xs.drop f) = ((f + m : Nat) : Int) by rw [hl, hm]; exact scan_endX l1 l2 1 f s1)
      have N1 := Lib.hid (show scanB (N - (j + 1)) (xs.drop (f + m)) = true by rw [hd]; exact s2)
      have N2 := Lib.hid (show sumW (xs.drop 1) = segSum xs (segs ++ [(f, m)]) + sumW (xs.drop (f + m)) by
        rw [h2.out, hl, hd, sumW_app, segSum_app]; simp only [segSum, hseg]; omega)
      have N3 := Lib.hid (show SegsOk xs n (segs ++ [(f, m)]) by
        intro s hs
        rcases List.mem_append.1 hs with hs | hs
        · exact h3.out s hs
        · simp at hs; subst hs; exact ⟨hf1, hlen, by rw [hseg]; exact s1⟩)
      clear own hb hl s1 s2 hm hseg hd h1 h2 h3
      go_wp2_with fail
      refine (termEndE_c _ _ _ f xs _ (by exact H.out.below HB.out) (by omega) hfn).mono ?_
      rintro e w2 ⟨rfl, hb2⟩
      rw [HE.out]
      have BB2 := Lib.hid (below_chain HB.out HB.out.size hb2)
      have O2 := Lib.hid (HO.out.keep hb2)
      have hz2 := hb2.size
      have hz := HB.out.size
      clear hb2
      go_wp2_with (at_builtin; refine wp_app1 (by rfl) _ _ 98 58 (.slice none 0 0) 24 (by rfl) Try.underlying98 info_ExprSl rfl w.heap.size C j cc (segs.map (segV ad c)) (by rfl) (by exact O2.out.alloc _) w2.heap.size (.slice (some (ad.add (f * 2))) m (c - f)) (by rfl) (by exact new_cell _ _ _ 0) rfl (by omega) (by omega) (by simp; omega) ?_; intro g' cap w3 own3 hb3 hk3 hg3 hz3)
      have O3 := Lib.hid own3
      have BB3 := Lib.hid ((BB2.out.alloc BB2.out.size _).trans hb3)
      clear own3 hb3 hk3 hg3 hz3
      go_wp2
      go_roundw
      case rel => exact ⟨j + 1, f + m, some ⟨g', 0, none⟩, cap, segs ++ [(f, m)], rfl, by go_num, by go_num, by omega, by omega, by omega, N1.out, N2.out, N3.out, by rw [List.map_append]; exact O3.out, BB3.out⟩
      case measure => simp [intOf]; omega
    · have HK := Lib.hid (show j = N by omega)
      have HD := Lib.hid (show sumW (xs.drop f) = 0 by
        have := h1.out
        rw [show N - j = 0 by omega] at this
        cases hd : xs.drop f with
        | nil => rfl
        | cons a b => rw [hd] at this; simp [scanB] at this)
      clear own hb
      go_wp2
      go_ret
      refine ⟨C, cc, segs, by rw [← HM.out, ← HK.out]; rfl, by rw [← HM.out, ← HK.out]; exact HO.out.wr.rd, h3.out, by rw [h2.out, HD.out]; omega, HB.out⟩
end Go.Proofs.Ytbpeagnldgefeaa
