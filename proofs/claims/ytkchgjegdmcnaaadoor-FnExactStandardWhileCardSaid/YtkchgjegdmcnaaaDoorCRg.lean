/-
  Reading while programs: ReadWhile of the program; both contracts as the law asks for them.
-/
import Derived.Test.YtkchgjegdmcnaaaDoorCRd
import Derived.Test.YtkchgjegdmcnaaaDoorCVc
import Derived.Laws.IdiomStrings
namespace Go.Proofs.YtkchgjegdmcnaaaDoor
open Go.RowKit

theorem OwnCs.low {w : World} {B B' : Nat} {A : Option Addr} {n c : Nat} {js : List Ct} (h : OwnCs w B A n c js) (hB : B' ≤ B) : OwnCs w B' A n c js := by
  refine ⟨⟨h.own.1, ?_⟩, ⟨fun s hs => (h.wrs.each s hs).wider hB (Nat.le_refl _), h.wrs.apart⟩, h.ne⟩
  rcases h.own.2 with h1 | ⟨g, cap, cur, hv, h2, h3⟩
  · exact .inl h1
  · exact .inr ⟨g, cap, cur, hv, Nat.le_trans hB h2, h3⟩
theorem rwS_true {s : List UInt8} (h : (rwS s).2 = true) : validW (rwS s).1 = true := by
  unfold rwS at h ⊢
  split at h
  · rename_i hc; rw [if_pos hc]; exact hc.2.2.1
  · cases h
theorem rwI_bad {s : List UInt8} {p : List Cmd} {st : RS} (hx : ixC (runesL s).length [] (runesL s, false, 3200) = (p, st)) (h : st.2.1 = true ∨ p = [] ∨ whR p ≠ s) : rwI s = ([], false) := by
  rw [rwI, if_neg]
  rw [hx]
  rintro ⟨h1, h2, h3⟩
  rcases h with h | h | h
  · simp only at h1; rw [h] at h1; cases h1
  · exact h2 h
  · exact h h3
theorem rwI_good {s : List UInt8} {p : List Cmd} {st : RS} (hx : ixC (runesL s).length [] (runesL s, false, 3200) = (p, st)) (h1 : st.2.1 = false) (h2 : p ≠ []) (h3 : whR p = s) : rwI s = (p, true) := by
  rw [rwI, if_pos (by rw [hx]; exact ⟨h1, h2, h3⟩), hx]
theorem QS.start (R : List Int) : QS (R, false, 3200) := ⟨by simp, by simp, fun _ => by simp⟩
/-- the runes of a text, in a new row -/
theorem run_runes (s : List UInt8) (hs : s.length ≤ 1048576) (w : World) : ∃ cap w1, (convert 9 48 (.string (bs s))).run Tryd.prog w = .ok (.slice (some ⟨w.heap.size, 0, none⟩) (runesL s).length cap) w1 ∧ (runesL s).length ≤ cap ∧ Below w.heap.size w w1 ∧ w1.heap.size = w.heap.size + 1 ∧ Rd w1 (some ⟨w.heap.size, 0, none⟩) (runesL s).length ((runesL s).map (Value.int .i32)) := by
  have hl := runesL_len s
  have hsz := runesL_size s
  have hr := run_runes_of_string (P := Tryd.prog) w 9 48 21 (bs s) Tryd.underlying9 Tryd.underlying48 Tryd.underlying21 (by rw [hsz]; omega)
  have hg := grownCap_ge w (Conv.runesFrom (bs s) (bs s).size 0 #[]).size 0 21
  rw [hsz] at hr hg
  refine ⟨_, _, hr, hg, below_drew below_size |>.alloc (Nat.le_refl _) _, by simp, ?_⟩
  refine (Blk.new w.drew 21 _).rd (n := (runesL s).length) ?_ ?_
  · rw [Array.toList_append, runesL_arr, List.take_left' (by rw [List.length_map])]
  · rw [Array.size_append, hsz]; omega
set_option maxHeartbeats 4000000 in
set_option maxRecDepth 100000 in
theorem iReadWhile_t (s : List UInt8) (w : World) (hs : s.length ≤ 1048576) (ht : Tab w) : Calls Tryd.prog 12 #[.string (bs s)] w (CmOutB (rwS s) w) := by
  obtain ⟨⟨p, Q, b, l⟩, hx⟩ : ∃ r, ixC (runesL s).length [] (runesL s, false, 3200) = r := ⟨_, rfl⟩
  obtain ⟨R, hR⟩ : ∃ R, rwS s = R := ⟨_, rfl⟩
  rw [hR]
  have HR := Lib.hid (show rwI s = R by rw [rw_eq]; exact hR)
  have HRS := Lib.hid hR
  have HX := Lib.hid hx; have HS := Lib.hid hs; have HT := Lib.hid ht
  obtain ⟨cap, w1, hcv, hcap, hb1, hz1, hrd⟩ := run_runes s hs w
  have hrl := runesL_len s
  obtain ⟨N, hN⟩ : ∃ N, (runesL s).length = N := ⟨_, rfl⟩
  rw [hN] at hcv hcap hrd hrl
  have HN := Lib.hid hN
  obtain ⟨w2, hw2⟩ : ∃ w2, w1.alloc (.cells #[.slice (some ⟨w.heap.size, 0, none⟩) N cap, .bool false, .int .i64 3200] 50) = w2 := ⟨_, rfl⟩
  have E2 := Lib.hid (show Below w1.heap.size w1 w2 by rw [← hw2]; exact below_size.alloc (Nat.le_refl _) _)
  have hz2 : w2.heap.size = w1.heap.size + 1 := by rw [← hw2]; simp
  have HZ := Lib.hid (show w.heap.size ≤ w1.heap.size ∧ w2.heap.size = w1.heap.size + 1 ∧ w1.heap.size = w.heap.size + 1 from ⟨by omega, hz2, hz1⟩)
  have S2 := Lib.hid (show RdrS w1.heap.size w2.heap.size (runesL s, false, 3200) w2 from by
    refine ⟨⟨some ⟨w.heap.size, 0, none⟩, N, cap, by rw [← hw2]; exact Blk.new _ _ _, hrd.below E2.out, hcap, fun a ha => ?_, by omega⟩, rnL_bd _ _ _, by omega, Nat.le_refl _⟩
    injection ha with ha; subst ha
    exact ⟨by show w.heap.size < w2.heap.size; omega, by show w.heap.size ≠ w1.heap.size; omega⟩)
  have B2 := Lib.hid (show Below w.heap.size w w2 from hb1.trans (E2.out.mono (by omega)))
  have gl := bs_toList s
  clear hx hR hs ht hb1 hz1 hz2 hrd hN
  go_enter Tryd.func12, Tryd.ntmps12
  go_wp2_with fail
  clear hw2 hcv
  refine (commands_c w1.heap.size w2.heap.size (runesL s).length (runesL s, false, 3200) w2 S2.out (Nat.le_refl _) (QS.start _)).mono ?_
  rw [HX.out]
  rintro e w3 ⟨A, n, c, js, rfl, hO, hj, htn, hs3, hk3⟩
  have O3 := Lib.hid hO; have J3 := Lib.hid (show js.map datC = p from hj); have T3 := Lib.hid htn; have K3 := Lib.hid hk3
  have B3 := Lib.hid (show Below w.heap.size w w3 from B2.out.trans (hk3.below (by have := HZ.out; omega) (by have := HZ.out; omega)))
  obtain ⟨RA, rn, rc, hm1, _⟩ := hs3.mem
  simp only at hm1
  have k1 : w3.cell? ⟨w1.heap.size, 1, none⟩ = some (.bool b) := hm1.cell 1
  have hjl : p.length = n := by have h9 : js.map datC = p := hj; rw [← h9, List.length_map, OwnCs.len hO]
  have HJL := Lib.hid hjl
  have hn2 : n ≤ 2000000 := by
    have h1 := (ixC_ok (runesL s).length [] (runesL s, false, 3200) (QS.start _)).2
    rw [HX.out] at h1
    simp only [List.length_nil] at h1
    have := HN.out; have := HS.out; omega
  have hcc := hO.own.cap
  clear hO hj htn hs3 hk3 hm1 hjl
  cases b
  rotate_left
  · have HG := Lib.hid (show (([], false) : List Cmd × Bool) = R by rw [← HR.out, rwI_bad HX.out (.inl rfl)])
    go_wp2_with fail
    go_ret2
    rw [← HG.out]
    exact CmOutB.bad false B3.out
  by_cases hn0 : n = 0
  · have HG := Lib.hid (show (([], false) : List Cmd × Bool) = R by rw [← HR.out, rwI_bad HX.out (.inr (.inl (List.length_eq_zero_iff.1 (by rw [HJL.out]; exact hn0))))])
    subst hn0
    go_wp2_with fail
    go_ret2
    rw [← HG.out]
    exact CmOutB.bad false B3.out
  have g0 : ((n : Int) == 0) = false := by rw [beq_eq_false_iff_ne]; omega
  have HNE := Lib.hid (show p ≠ [] from fun e => hn0 (by rw [← HJL.out, e]; rfl))
  clear hn0
  have gw := bs_toList (whR p)
  by_cases hte : whR p = s
  · have hG : ((p, true) : List Cmd × Bool) = R := by rw [← HR.out, rwI_good HX.out rfl HNE.out hte]
    have HG := Lib.hid hG
    have HV := Lib.hid (show validW p = true by
      have h1 := rwS_true (s := s) (by rw [HRS.out, ← hG])
      rw [HRS.out, ← hG] at h1; exact h1)
    have gt : (whR p == s) = true := by simp [hte]
    clear hte hG
    go_wp2_with (go_at_call 9; refine (iWhileText_c A n c js (D := p) _ (OwnS.wrS O3.out).rd (by omega) hcc (fun t ht => by have := (T3.out t ht).2; omega) (fun t ht => (T3.out t ht).1) J3.out (HT.out.below B3.out)).mono ?_; rintro e w4 ⟨rfl, hb4⟩; have B4 := Lib.hid hb4)
    go_ret2
    rw [← HG.out]
    exact CmOutB.good ((O3.out.low (by have := HZ.out; omega)).keep B4.out) J3.out HV.out true (below_chain B3.out B3.out.size B4.out)
  · have HG := Lib.hid (show (([], false) : List Cmd × Bool) = R by rw [← HR.out, rwI_bad HX.out (.inr (.inr hte))])
    have gt : (whR p == s) = false := by rw [beq_eq_false_iff_ne]; exact hte
    clear hte
    go_wp2_with (go_at_call 9; refine (iWhileText_c A n c js (D := p) _ (OwnS.wrS O3.out).rd (by omega) hcc (fun t ht => by have := (T3.out t ht).2; omega) (fun t ht => (T3.out t ht).1) J3.out (HT.out.below B3.out)).mono ?_; rintro e w4 ⟨rfl, hb4⟩; have B4 := Lib.hid hb4)
    go_ret2
    rw [← HG.out]
    exact CmOutB.bad false (below_chain B3.out B3.out.size B4.out)
/-- what ReadWhile gives -/
def rdwR (x : ByteArray) : List Cmd × Bool := rwS x.data.toList
theorem sReadWhile_c (x : ByteArray) (w : World) (hn : x.size ≤ 1048576) : Calls Tryd.prog 11 #[.string x] w (CmOutB (rdwR x) w) := by
  obtain ⟨s, rfl⟩ := bs_list' x
  rw [rdwR, bs_list]
  exact sReadWhile_t s w (by rw [bs_size] at hn; exact hn)
theorem iReadWhile_c (x : ByteArray) (w : World) (hn : x.size ≤ 1048576) (ht : Tab w) : Calls Tryd.prog 12 #[.string x] w (CmOutB (rdwR x) w) := by
  obtain ⟨s, rfl⟩ := bs_list' x
  rw [rdwR, bs_list]
  exact iReadWhile_t s w (by rw [bs_size] at hn; exact hn) ht
end Go.Proofs.YtkchgjegdmcnaaaDoor
