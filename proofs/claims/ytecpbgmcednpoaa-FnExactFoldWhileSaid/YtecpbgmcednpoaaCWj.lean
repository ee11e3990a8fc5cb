/-
  Contracts of chapter 22: RenameWhile, of the reference and of the program.
-/
import Derived.Test.YtecpbgmcednpoaaCWi
import Derived.Test.YtecpbgmcednpoaaCWd
namespace Go.Proofs.Ytecpbgmcednpoaa
open Go.RowKit

theorem OwnS.widen {w : World} {B B' : Nat} {e : TypeId} {size n c : Nat} {A : Option Addr} {vs : List Value} {ss : List Seg} (h : OwnS w B e size A n c vs ss) (hB : B' ≤ B) : OwnS w B' e size A n c vs ss := ⟨h.own.widen hB, h.wrs.wider hB (Nat.le_refl _), h.ne⟩
/-- the pairs up to k renamed -/
def mixX (os : List Int) (xs : List (Int × Int)) (k : Nat) : List (Int × Int) := (xs.take k).map (renX os) ++ xs.drop k
theorem mixX_zero (os : List Int) (xs : List (Int × Int)) : mixX os xs 0 = xs := by simp [mixX]
theorem mixX_all {os : List Int} {xs : List (Int × Int)} {n : Nat} (h : xs.length ≤ n) : mixX os xs n = xs.map (renX os) := by rw [mixX, List.take_of_length_le h, List.drop_eq_nil_of_le h, List.append_nil]
theorem mixX_at {os : List Int} {xs : List (Int × Int)} {k : Nat} {y : Int × Int} (h : xs[k]? = some y) : (mixX os xs k)[k]? = some y := by
  have hl : ((xs.take k).map (renX os)).length = k := by rw [List.length_map, List.length_take]; have := (List.getElem?_eq_some_iff.1 h).1; omega
  rw [mixX, List.getElem?_append_right (by omega), hl, Nat.sub_self, drop_at h]; rfl
theorem mixX_set {os : List Int} {xs : List (Int × Int)} {k u : Nat} {ou : Int} (h : xs[k]? = some (1, (u : Int))) (ho : os[u]? = some ou) : ((mixX os xs k).flatMap enc2).set (k * 2 + 1) (i64 ou) = (mixX os xs (k + 1)).flatMap enc2 := by
  have hl : ((xs.take k).map (renX os)).length = k := by rw [List.length_map, List.length_take]; have := (List.getElem?_eq_some_iff.1 h).1; omega
  have e : renX os (1, (u : Int)) = (1, ou) := by show (1, if (1 : Int) = 1 then atO os (u : Int) else (u : Int)) = _; rw [if_pos rfl, atO_at ho]
  rw [mixX, mixX, drop_at h, flat2_set hl, take_at h, List.map_append, List.map_singleton, e, List.append_assoc, List.singleton_append]
theorem mixX_skip {os : List Int} {xs : List (Int × Int)} {k : Nat} {t v : Int} (h : xs[k]? = some (t, v)) (h1 : t ≠ 1) : mixX os xs (k + 1) = mixX os xs k := by
  have e : renX os (t, v) = (t, v) := by show (t, if t = 1 then atO os v else v) = _; rw [if_neg h1]
  rw [mixX, mixX, drop_at h, take_at h, List.map_append, List.map_singleton, e, List.append_assoc, List.singleton_append]

set_option maxHeartbeats 4000000 in
set_option maxRecDepth 100000 in
theorem iRenameWhile_c (A : Option Addr) (n c : Nat) (ps : List Ct) (O : Option Addr) (on oc : Nat) (os : List Int) {D : List Cmd} (w : World) (h : RdS w (sgCS A n ps)) (h' : RdI w O on os) (hn : n ≤ 1000000000) (hn' : on ≤ 1000000000) (hnc : n ≤ c) (hi : ∀ t ∈ ps, t.n ≤ 1000000000) (hw0 : ps.map datC = D) :
    Calls Try.prog 18 #[.slice A n c, .slice O on oc] w (CmOut2 (rwR D os) w) := by
  obtain ⟨q, hq⟩ : ∃ q, validW D = q := ⟨_, rfl⟩
  obtain ⟨p, hp⟩ : ∃ p, orderB os = p := ⟨_, rfl⟩
  obtain ⟨R, hR⟩ : ∃ R, rwR D os = R := ⟨_, rfl⟩
  rw [hR]
  have HQ := Lib.hid (show validW (ps.map datC) = q by rw [hw0]; exact hq)
  have HP := Lib.hid hp
  have HR := Lib.hid (show (if q = true then (if p = true then (D.map (renC os), 0) else ([], 2)) else ([], 1)) = R by rw [← hR, rwR, hq, hp])
  have HV := Lib.hid (show validW D = q from hq)
  have HD := Lib.hid hw0
  have HL := Lib.hid (RdCS.len h)
  obtain ⟨w0, hw⟩ : ∃ w0, w.alloc (.cells #[.slice O on oc] 24) = w0 := ⟨_, rfl⟩
  have B0 := Lib.hid (show Below w.heap.size w w0 by rw [← hw]; exact below_size.alloc (Nat.le_refl _) _)
  have p0 : w0.cell? ⟨w.heap.size, 0, none⟩ = some (.slice O on oc) := by rw [← hw]; exact new_cell _ _ _ 0
  have hz0 := B0.out.size
  have H := Lib.hid h; have HO := Lib.hid h'; have HI := Lib.hid hi; clear h h' hi hw0 hq hR hp
  go_enter Try.func18, Try.ntmps18
  go_wp2_with fail
  refine (validWhile_c A n c ps q w0 (H.out.below B0.out) hnc hn HI.out HQ.out).mono ?_
  rintro e w1 ⟨rfl, hb1⟩
  have B1 := Lib.hid (below_chain B0.out hz0 hb1)
  have hz1 := B1.out.size
  have p1 := keepc hb1 p0
  clear hb1 p0
  cases q
  · have HG := Lib.hid (show (([], 1) : List Cmd × Int) = R from HR.out)
    go_wp2_with fail
    go_ret2
    rw [← HG.out]
    exact CmOut2.bad 1 B1.out
  go_wp2_with fail
  refine (isOrder_c O on oc os w1 (HO.out.below B1.out) hn' p HP.out).mono ?_
  rintro e w2 ⟨rfl, hb2⟩
  have B2 := Lib.hid (below_chain B1.out hz1 hb2)
  have hz2 := B2.out.size
  have p2 := Lib.hid (keepc hb2 p1)
  clear hb2 p1
  cases p
  · have HG := Lib.hid (show (([], 2) : List Cmd × Int) = R from HR.out)
    go_wp2_with fail
    go_ret2
    rw [← HG.out]
    exact CmOut2.bad 2 B2.out
  have HG := Lib.hid (show (D.map (renC os), (0 : Int)) = R from HR.out)
  obtain ⟨hv1, hv2⟩ := validW_all HV.out
  have HV2 := Lib.hid hv2
  have h80 : n ≤ 80 := by rw [← HL.out, ← List.length_map (f := datC), HD.out]; exact hv1
  clear hv1 hv2 HR
  go_wp2_with fail
  refine (mappedR_c (.pointer (some ⟨w.heap.size, 0, none⟩)) (renC os) A n c ps D w2 (H.out.below B2.out) (by omega) HD.out ?_).mono ?_
  · intro t ht wz hbz
    have hb := below_chain B2.out hz2 hbz
    have hrd : Rd2 wz t.A t.n t.xs := (H.out.below hb).tail (bodyC t) (List.mem_map_of_mem ht)
    obtain ⟨e1, e2, e3⟩ := HV2.out (datC t) (by rw [← HD.out]; exact List.mem_map_of_mem ht)
    exact renameWhile1_c os w.heap.size O on oc t.kd t.vr t.ln t.A t.n t.c t.xs wz (keepc hbz p2.out) (HO.out.below hb) HP.out hrd e1 e3
  rintro e w3 ⟨A', c', js, rfl, hO, hj, hj1, hb3⟩
  have O3 := Lib.hid (hO.widen hz2); have J3 := Lib.hid hj; have I3 := Lib.hid hj1; have B3 := Lib.hid (below_chain B2.out hz2 hb3)
  clear hO hj hj1 hb3 hw
  go_wp2_with fail
  go_ret2
  rw [← HG.out]
  exact CmOut2.good O3.out (by omega) I3.out J3.out B3.out
end Go.Proofs.Ytecpbgmcednpoaa
