/-
  Contracts of chapter 22: FoldWhile of the reference.
-/
import Derived.Test.YtecpbgmcednpoaaCWm
import Derived.Test.YtecpbgmcednpoaaCWk
namespace Go.Proofs.Ytecpbgmcednpoaa
open Go.RowKit

/-- another row in the place of a row: it lies in blocks of its own -/
theorem WrS.replace {w : World} {lo hi lo' hi' : Nat} {pre post : List Seg} {s s' : Seg} (h : WrS w lo hi (pre ++ s :: post)) (hs : Wr w lo' hi' s'.A s'.n s'.vs) (h1 : hi ≤ lo') (h2 : lo ≤ lo') (h3 : hi ≤ hi') : WrS w lo hi' (pre ++ s' :: post) := by
  have hold : ∀ t ∈ pre ++ post, ∀ a, t.A = some a → 0 < t.n → a.block < hi := fun t ht a ha hn => by
    obtain ⟨a', e', _, h5, _⟩ := (h.each t (by rcases List.mem_append.1 ht with ht | ht <;> simp [ht])).2 hn
    rw [ha] at e'; injection e' with e'; subst e'; exact h5
  have hnew : ∀ a, s'.A = some a → 0 < s'.n → lo' ≤ a.block := fun a ha hn => by
    obtain ⟨a', e', h4, _⟩ := hs.2 hn
    rw [ha] at e'; injection e' with e'; subst e'; exact h4
  obtain ⟨p1, p2, p3⟩ := List.pairwise_append.1 h.apart
  obtain ⟨p4, p5⟩ := List.pairwise_cons.1 p2
  refine ⟨fun t ht => ?_, List.pairwise_append.2 ⟨p1, List.pairwise_cons.2 ⟨fun t ht a b ha hb hn hm => ?_, p5⟩, fun t ht u hu => ?_⟩⟩
  · rcases List.mem_append.1 ht with ht | ht
    · exact (h.each t (by simp [ht])).wider (Nat.le_refl _) h3
    · rcases List.mem_cons.1 ht with rfl | ht
      · exact hs.wider h2 (Nat.le_refl _)
      · exact (h.each t (by simp [ht])).wider (Nat.le_refl _) h3
  · have := hold t (by simp [ht]) b hb hm; have := hnew a ha hn; omega
  · rcases List.mem_cons.1 hu with rfl | hu
    · intro a b ha hb hn hm
      have := hold t (by simp [ht]) a ha hn; have := hnew b hb hm; omega
    · exact p3 t ht u (by simp [hu])
theorem flatC_set3 {M D : List Ct} {kd vr ln : Int} {xA : Option Addr} {xn xc : Nat} {xs : List (Int × Int)} {k : Nat} (hk : M.length = k) (A : Option Addr) (m c : Nat) (F : List (Int × Int)) :
    ((M ++ (⟨kd, vr, ln, xA, xn, xc, xs⟩ : Ct) :: D).flatMap hdC).set (k * 4 + 3) (.slice A m c) = (M ++ (⟨kd, vr, ln, A, m, c, F⟩ : Ct) :: D).flatMap hdC := by
  rw [flatC_set (D := D) hk 3 (by omega) (.slice A m c)]; simp [hdC]
set_option maxHeartbeats 4000000 in
set_option maxRecDepth 100000 in
theorem sFoldWhile_c (A : Option Addr) (n c : Nat) (ps : List Ct) {D : List Cmd} (w : World) (h : RdS w (sgCS A n ps)) (hn : n ≤ 1000000000) (hi : ∀ t ∈ ps, t.n ≤ 1000000000) (hcp : ∀ t ∈ ps, t.n ≤ t.c) (hw0 : ps.map datC = D) :
    Calls Try.prog 20 #[.slice A n c] w (CmOut2 (fwhR D) w) := by
  obtain ⟨q, hq⟩ : ∃ q, validW D = q := ⟨_, rfl⟩
  obtain ⟨R, hR⟩ : ∃ R, fwhR D = R := ⟨_, rfl⟩
  rw [hR]
  have HQ := Lib.hid (show validW (ps.map datC) = q by rw [hw0]; exact hq)
  have HR := Lib.hid (show (if q = true then (D.map foldC, 0) else ([], 1)) = R by rw [← hR, fwhR, hq])
  have HV := Lib.hid (show validW D = q from hq)
  have HD := Lib.hid hw0
  have HL := Lib.hid (RdCS.len h)
  have H := Lib.hid h; have HI := Lib.hid hi; have HCP := Lib.hid hcp; clear h hi hw0 hq hR hcp
  go_enter Try.func20, Try.ntmps20
  go_wp2_with fail
  refine (l22Is_c A n c ps q w H.out hn HI.out HQ.out).mono ?_
  rintro e w1 ⟨rfl, hb1⟩
  have B1 := Lib.hid hb1
  have hz1 := B1.out.size
  clear hb1
  cases q
  · have HG := Lib.hid (show (([], 1) : List Cmd × Int) = R from HR.out)
    go_wp2_with fail
    go_ret2
    rw [← HG.out]
    exact CmOut2.bad 1 B1.out
  have HG := Lib.hid (show (D.map foldC, (0 : Int)) = R from HR.out)
  obtain ⟨hv1, hv2⟩ := validW_all HV.out
  have HV2 := Lib.hid hv2
  have h80 : n ≤ 80 := by rw [← HL.out, ← List.length_map (f := datC), HD.out]; exact hv1
  have HDL := Lib.hid (show D.length = n by rw [← HD.out, List.length_map, HL.out])
  have hi40 : ∀ t ∈ ps, t.n ≤ 40 := fun t ht => by
    have h1 : Rd2 w t.A t.n t.xs := H.out.tail (bodyC t) (List.mem_map_of_mem ht)
    obtain ⟨e1, _, _⟩ := hv2 (datC t) (by rw [← HD.out]; exact List.mem_map_of_mem ht)
    have h2 := (validE_end e1).2.2.1
    have h3 : t.xs.length = t.n := h1.len
    have h4 : t.xs.length ≤ 40 := h2
    omega
  have HI4 := Lib.hid hi40
  clear hv1 hv2 HR hi40
  go_wp2_with fail
  refine (l22Own_c A n c ps D w1 (H.out.below B1.out) hn (fun t ht => Nat.le_trans (HI4.out t ht) (by omega)) HD.out).mono ?_
  rintro e w3 ⟨A3, c3, js, rfl, ⟨hO, hj⟩, hj1, hb3⟩
  have W3 := Lib.hid (show WrS w3 w.heap.size w3.heap.size (sgCS A3 n js) from (hO.widen hz1).wrS); have J3 := Lib.hid hj; have I3 := Lib.hid hj1; have B3 := Lib.hid (below_chain B1.out hz1 hb3)
  have hz3 := B3.out.size
  clear hO hj hj1 hb3
  go_wp2_with fail
  go_loopw [5] (fun iv wr => ∃ (i : Nat) (ks : List Ct), i ≤ n ∧ iv = .int .i64 i ∧ Hid (ks.map datC = (D.take i).map foldC ++ D.drop i) ∧ Hid (∀ t ∈ ks, t.n ≤ 1000000) ∧ Hid (WrS wr w.heap.size wr.heap.size (sgCS A3 n ks)) ∧ Hid (Below w.heap.size w wr)) (fun iv _ => n - (intOf iv).toNat)
  case atStart => exact ⟨0, js, by omega, rfl, by simpa [Hid] using J3.out, I3.out, W3.out, B3.out⟩
  case round =>
    obtain ⟨i, ks, hin, rfl, hj, hji, hW, hB⟩ := hrel
    have hzr := hB.out.size
    by_cases hlt : i < n
    · have hkl := RdCS.len hW.out.rd
      obtain ⟨M, t, Dd, rfl, hM⟩ := split_at (l := ks) (i := i) (by omega)
      obtain ⟨x, hx⟩ : ∃ x, D[i]? = some x := ⟨_, List.getElem?_eq_getElem (by rw [HDL.out]; exact hlt)⟩
      have hj' := hj.out
      rw [List.map_append, List.map_cons, drop_at hx] at hj'
      obtain ⟨j1, j2⟩ := List.append_inj hj' (by rw [List.length_map, List.length_map, List.length_take, hM, HDL.out]; omega)
      injection j2 with j2 j3
      have HJ1 := Lib.hid j1; have HJ3 := Lib.hid j3; have HTK := Lib.hid (take_at hx)
      obtain ⟨a3, rfl, hab⟩ : ∃ ad, A3 = some ad ∧ ad.block < wr.heap.size := by
        obtain ⟨ad, _, e, h1, _⟩ := RdCS.at_ hW.out.rd hlt
        exact ⟨ad, e, h1⟩
      obtain ⟨_, _, _, hd3, _⟩ := RdCS.get hW.out.rd (mid_at hM)
      -- the program that came in
      have hpi : i < ps.length := by rw [HL.out]; exact hlt
      obtain ⟨ad, rfl, hab'⟩ : ∃ ad, A = some ad ∧ ad.block < w.heap.size := by
        obtain ⟨ad, _, e, h1, _⟩ := RdCS.at_ H.out hlt
        exact ⟨ad, e, h1⟩
      obtain ⟨y, hy⟩ : ∃ y, ps[i]? = some y := ⟨_, List.getElem?_eq_getElem hpi⟩
      obtain ⟨_, _, _, hc3, hrx⟩ := RdCS.get (H.out.below hB.out) hy
      have hym := List.mem_of_getElem? hy
      have hy4 := HI4.out y hym
      have hyc := HCP.out y hym
      have hyx : datC y = x := by
        have h1 : (ps.map datC)[i]? = some (datC y) := by rw [List.getElem?_map, hy]; rfl
        rw [HD.out, hx] at h1; injection h1 with h1; exact h1.symm
      obtain ⟨e1, _, _⟩ := HV2.out x (List.mem_of_getElem? hx)
      obtain ⟨kd, vr, ln, xA, xn, xc, xs⟩ := t
      obtain ⟨kd', vr', ln', yA, yn, yc, ys⟩ := y
      simp only at hd3 hc3 hrx hy4 hyc
      rw [← hyx] at j2 e1
      simp only [datC, Prod.mk.injEq] at j2 e1
      obtain ⟨rfl, rfl, rfl, rfl⟩ := j2
      obtain ⟨hE, _⟩ := isE_valid e1
      obtain ⟨F, hF⟩ : ∃ F, foldK 40 xs = F := ⟨_, rfl⟩
      obtain ⟨_, hok2⟩ := foldK_ok 40 xs hE (by rw [hrx.len]; exact hy4)
      rw [hF, hrx.len] at hok2
      have HF := Lib.hid hF; have HEE := Lib.hid hE; have HX := Lib.hid hyx; have HM := Lib.hid hM
      have HJT := Lib.hid (show ∀ t ∈ M ++ Dd, t.n ≤ 1000000 from fun t ht => hji.out t (by rcases List.mem_append.1 ht with ht | ht <;> simp [ht]))
      have hf : wr.frozen? (a3.add (i * 4 + 3)) = false := by
        obtain ⟨_, _, ea, _, _, _, _, _, hf⟩ := (WrS.head (show WrS wr _ _ (⟨some a3, n * 4, _⟩ :: _) from hW.out)).at_ (k := i * 4 + 3) (by show i * 4 + 3 < n * 4; omega)
        injection ea with ea; subst ea; exact hf
      have a1 : (⟨(a3.add (i * 4)).block, (a3.add (i * 4)).off + 3, none⟩ : Addr) = a3.add (i * 4 + 3) := next_off a3 (i * 4) 2
      rw [← a1] at hf
      have A1' := Lib.hid a1
      obtain ⟨w4, hw4⟩ : ∃ w4, wr.alloc (.cells #[] 49) = w4 := ⟨_, rfl⟩
      have E4 := Lib.hid (show Below wr.heap.size wr w4 by rw [← hw4]; exact below_size.alloc (Nat.le_refl _) _)
      have O4 := Lib.hid (show Own w4 wr.heap.size 49 2 (some ⟨wr.heap.size, 0, none⟩) 0 0 [] by rw [← hw4]; exact Own.litK (Nat.le_refl _))
      have R4 := Lib.hid (hrx.below E4.out)
      have c3' := keepc E4.out hc3
      have hz4 := E4.out.size
      have HD3 := Lib.hid hd3
      clear hrx hj hji hj' hkl j1 j3 hM hx hy hyx hF hE e1 a1 hd3 hc3 hym
      go_wp2_with (first
        | (go_at_call 39; refine (l22Simple_c 40 yA yn yc xs w4 R4.out hyc hy4 (Nat.le_refl _) HEE.out).mono ?_; rw [HF.out]; rintro e w5 ⟨A5, m5, c5, rfl, hr5, hm5, hb5⟩; have R5 := Lib.hid hr5; have hml5 := hr5.len; have E5 := Lib.hid (below_chain E4.out hz4 hb5); have O5 := Lib.hid (O4.out.keep hb5); have hz5 := E5.out.size)
        | (at_builtin; refine wp_appExpr (by rfl) _ _ (by rfl) wr.heap.size _ _ _ [] (by rfl) (by exact O5.out) A5 m5 c5 F (by rfl) (by exact R5.out) (by omega) (by omega) ?_; intro A6 c6 w6 own6 hb6 hk6 hg6 hz6; have E6 := Lib.hid (E5.out.trans hb6); have d6 := keepc E6.out HD3.out; have f6 := (E6.out.frozen (p := ⟨(a3.add (i * 4)).block, (a3.add (i * 4)).off + 3, none⟩) (by show (a3.add (i * 4)).block < _; rw [block_add]; exact hab)).trans hf))
      rw [Nat.zero_add, List.nil_append] at own6
      have WB := (hW.out.below E6.out)
      have hlt3 : i * 4 + 3 < n * 4 := by omega
      have hW0 : WrS w6 w.heap.size wr.heap.size ([] ++ ⟨some a3, n * 4, (M ++ (⟨kd, vr, ln, xA, xn, xc, xs⟩ : Ct) :: Dd).flatMap hdC⟩ :: (M ++ (⟨kd, vr, ln, xA, xn, xc, xs⟩ : Ct) :: Dd).map bodyC) := WB
      obtain ⟨hW1, hK1⟩ := hW0.set_at rfl (k := i * 4 + 3) hlt3 (.slice A6 m5 c6)
      rw [← A1'.out, flatC_set3 HM.out A6 m5 c6 F, List.nil_append, List.map_append, List.map_cons] at hW1
      have hW2 : WrS (w6.setCell ⟨(a3.add (i * 4)).block, (a3.add (i * 4)).off + 3, none⟩ (.slice A6 m5 c6)) w.heap.size wr.heap.size ((⟨some a3, n * 4, (M ++ (⟨kd, vr, ln, A6, m5, c6, F⟩ : Ct) :: Dd).flatMap hdC⟩ :: M.map bodyC) ++ bodyC (⟨kd, vr, ln, xA, xn, xc, xs⟩ : Ct) :: Dd.map bodyC) := hW1
      have hs : Wr (w6.setCell ⟨(a3.add (i * 4)).block, (a3.add (i * 4)).off + 3, none⟩ (.slice A6 m5 c6)) wr.heap.size w6.heap.size (bodyC (⟨kd, vr, ln, A6, m5, c6, F⟩ : Ct)).A (bodyC (⟨kd, vr, ln, A6, m5, c6, F⟩ : Ct)).n (bodyC (⟨kd, vr, ln, A6, m5, c6, F⟩ : Ct)).vs :=
        own6.wrK.set_far (.inl (by show (a3.add (i * 4)).block < _; rw [block_add]; exact hab)) _
      have hW3 := hW2.replace hs (Nat.le_refl _) hzr E6.out.size
      have W9 := Lib.hid (show WrS (w6.setCell ⟨(a3.add (i * 4)).block, (a3.add (i * 4)).off + 3, none⟩ (.slice A6 m5 c6)) w.heap.size (w6.setCell ⟨(a3.add (i * 4)).block, (a3.add (i * 4)).off + 3, none⟩ (.slice A6 m5 c6)).heap.size (sgCS (some a3) n (M ++ (⟨kd, vr, ln, A6, m5, c6, F⟩ : Ct) :: Dd)) by
        rw [World.size_setCell]
        unfold sgCS
        rw [List.map_append, List.map_cons]
        exact hW3)
      have hlo : w.heap.size ≤ (a3.add (i * 4)).block := by
        obtain ⟨_, e, h1, _⟩ := (WrS.head (show WrS wr _ _ (⟨some a3, n * 4, _⟩ :: _) from hW.out)).2 (by show 0 < n * 4; omega)
        injection e with e; subst e; rw [block_add]; exact h1
      have B9 := Lib.hid ((hB.out.trans (E6.out.mono hzr)).setCell (p := ⟨(a3.add (i * 4)).block, (a3.add (i * 4)).off + 3, none⟩) hlo (.slice A6 m5 c6))
      clear hW0 hW1 hW2 hW3 hs hK1 WB own6
      go_roundw
      case rel =>
        refine ⟨i + 1, M ++ (⟨kd, vr, ln, A6, m5, c6, F⟩ : Ct) :: Dd, by omega, by go_num, ?_, ?_, W9.out, B9.out⟩
        · show (M ++ (⟨kd, vr, ln, A6, m5, c6, F⟩ : Ct) :: Dd).map datC = _
          rw [List.map_append, List.map_cons, HJ1.out, HJ3.out, HTK.out, List.map_append, List.map_singleton, List.append_assoc, List.singleton_append, ← HX.out, ← HF.out]
          rfl
        · intro t ht
          rcases List.mem_append.1 ht with ht | ht
          · exact HJT.out t (List.mem_append.2 (.inl ht))
          · rcases List.mem_cons.1 ht with rfl | ht
            · show m5 ≤ 1000000; omega
            · exact HJT.out t (List.mem_append.2 (.inr ht))
      case measure => simp [intOf]; omega
    · obtain rfl : i = n := by omega
      have HE := Lib.hid (show ks.map datC = D.map foldC by rw [hj.out, List.take_of_length_le (by rw [HDL.out]; exact Nat.le_refl _), List.drop_eq_nil_of_le (by rw [HDL.out]; exact Nat.le_refl _), List.append_nil])
      go_wp2_with fail
      go_ret2
      rw [← HG.out]
      have h2 := RdCS.len hW.out.rd
      have h3 := sumE_bd ks 1000000 hji.out
      exact ⟨A3, i, c3, ks, rfl, hW.out, ⟨by omega, hji.out, by rw [sumC_eq, h2]; rw [h2] at h3; omega, HE.out⟩, hB.out⟩
end Go.Proofs.Ytecpbgmcednpoaa
