/-
  The helpers of the laws at [][]int64: marking, looking at the marks.
-/
import Derived.Test.YtmmgejnhfpfmnaaSegII
namespace Go.Proofs.Ytmmgejnhfpfmnaa
open Go.RowKit

theorem sum_of {w w' : World} {A A' : Option Addr} {n n' : Nat} : ∀ {its js : List It}, RdS w (sgII A n its) → RdS w' (sgII A' n' js) → js.map It.xs = its.map It.xs → sumN js ≤ sumN its := by
  intro its js h h' hx
  have key : ∀ (a b : List It), (∀ t ∈ a, t.xs.length = t.n) → (∀ t ∈ b, t.xs.length = t.n) → b.map It.xs = a.map It.xs → sumN b ≤ sumN a := by
    intro a
    induction a with
    | nil => intro b _ _ e; cases b with
      | nil => exact Nat.le_refl _
      | cons y b => cases e
    | cons x a ih => intro b ha hb e; cases b with
      | nil => cases e
      | cons y b =>
        rw [List.map_cons, List.map_cons] at e
        injection e with e1 e2
        have h1 := ih b (fun t ht => ha t (by simp [ht])) (fun t ht => hb t (by simp [ht])) e2
        have h2 := ha x (by simp); have h3 := hb y (by simp)
        rw [e1] at h3
        simp only [sumN]; omega
  exact key its js (fun t ht => RdII.size h ht) (fun t ht => RdII.size h' ht) hx

theorem WrS.set_at {w : World} {lo hi k : Nat} {pre post : List Seg} {s : Seg} {ad : Addr} (h : WrS w lo hi (pre ++ s :: post)) (ha : s.A = some ad) (hk : k < s.n) (u : Value) :
    WrS (w.setCell (ad.add k) u) lo hi (pre ++ ⟨s.A, s.n, s.vs.set k u⟩ :: post) ∧ KeepR lo hi w (w.setCell (ad.add k) u) := by
  obtain ⟨l, r, hw, hkp, hset⟩ := h.range
  obtain ⟨ad', v, e, h1, h2, h3, _⟩ := hw.at_ hk
  rw [ha] at e; injection e with e; subst e
  have hk' : KeepR l r w (w.setCell (ad.add k) u) := (KeepR.refl l r w).setCell (by rw [block_add]; exact h1) (by rw [block_add]; exact h2) u
  rw [ha] at hw
  have := hw.set hk u
  rw [← ha] at this
  exact ⟨hset _ _ hk' this, hkp _ hk'⟩

set_option maxHeartbeats 2000000 in
theorem markInt64SS_g (A : Option Addr) (n c : Nat) (its : List It) (lo hi : Nat) (pre post : List Seg) (k0 : Int) (w : World) (h : WrS w lo hi (pre ++ (sgII A n its ++ post))) (hn : n ≤ 1000000000) (hi0 : ∀ t ∈ its, t.n ≤ 1000000000) (hs0 : sumN its ≤ 1000000000) (h0 : 0 ≤ k0) (h1 : k0 ≤ 10000000000) :
    Calls Try.prog 27 #[.slice A n c, .int .i64 k0] w fun e w' => e = .returned (.int .i64 (k0 + (sumN its : Nat))) ∧ WrS w' lo hi (pre ++ (mgII A n its k0 ++ post)) ∧ KeepR lo hi w w' := by
  have HL := Lib.hid (RdII.len h.rd.right.left)
  have H := Lib.hid h; have HI := Lib.hid hi0; clear h hi0
  go_enter Try.func27, Try.ntmps27
  go_wp2_with fail
  go_loopw [1, 5] (fun kv iv wr => ∃ (k : Nat) (kk : Int), k ≤ n ∧ iv = .int .i64 k ∧ kv = .int .i64 kk ∧ 0 ≤ kk ∧ kk ≤ k0 + 1000000000 ∧ Hid (kk = k0 + (sumN (its.take k) : Nat)) ∧ Hid (WrS wr lo hi (pre ++ (⟨A, n, its.map hdI⟩ :: (mkI (its.take k) k0 ++ ((its.drop k).map bodyI ++ post))))) ∧ Hid (KeepR lo hi w wr)) (fun _ iv _ => n - (intOf iv).toNat)
  case atStart => exact ⟨0, k0, by omega, rfl, rfl, h0, by omega, by simp [Hid, sumN], by simpa [Hid, mkI, sgII] using H.out, KeepR.refl _ _ _⟩
  case round =>
    obtain ⟨k, kk, hk, rfl, rfl, hkk0, hkk1, hr, hW, hK⟩ := hrel
    by_cases hlt : k < n
    · have hl : k < its.length := by rw [HL.out]; exact hlt
      have ht : its[k]? = some its[k] := List.getElem?_eq_getElem hl
      obtain ⟨ad, v, e, hab, hv, hc⟩ := hW.out.rd.right.head.at_ (k := k) (by simpa using hlt)
      simp only at e; subst e
      simp only [List.getElem?_map, ht, Option.map_some] at hv
      injection hv with hv; subst hv
      have hti := HI.out _ (List.mem_of_getElem? ht)
      have HS := Lib.hid (sumN_take ht); have HSL := Lib.hid (sumN_le (its := its) (k := k + 1))
      have hW3 := hW.out
      rw [drop_at ht, List.map_cons] at hW3
      generalize its[k] = t at *
      obtain ⟨tA, tn, tc, txs⟩ := t
      have hW3' : WrS wr lo hi ((pre ++ ⟨some ad, n, its.map hdI⟩ :: mkI (its.take k) k0) ++ sgI tA tn txs :: ((its.drop (k + 1)).map bodyI ++ post)) := by simpa [bodyI] using hW3
      obtain ⟨l, r, hw, hkp, hset⟩ := hW3'.range
      have HSET := Lib.hid hset; have HKP := Lib.hid hkp; have HW3 := Lib.hid hw; have HT := Lib.hid ht
      simp only [hdI] at hc
      clear hset hkp hW3 hW3' hw ht
      go_wp2_with fail
      refine (markInt64S_c tA tn tc l r _ _ _ HW3.out (by omega) (by omega) (by omega)).mono ?_
      rintro e w1 ⟨rfl, hw1, hk1⟩
      have W4 := Lib.hid (HSET.out _ _ hk1 hw1); have K4 := Lib.hid (hK.out.trans (HKP.out _ hk1))
      clear HSET HKP hw1 hk1 hc
      go_wp2_with fail
      go_roundw
      case rel =>
        refine ⟨k + 1, kk + tn, by omega, by go_num, by go_num, by omega, by have h1 := hr.out; have h2 := HS.out; have h3 := HSL.out; (try simp only at h2); omega, by have h1 := hr.out; have h2 := HS.out; (try simp only at h2); unfold Hid; omega, ?_, K4.out⟩
        unfold Hid
        rw [take_at HT.out, mkI_app, ← hr.out]
        have := W4.out
        simpa [mkI, sgI] using this
      case measure => simp [intOf]; omega
    · have HK := Lib.hid (show k = n by omega)
      go_wp2_with fail
      go_ret
      have e1 : its.take k = its := List.take_of_length_le (by rw [HL.out, HK.out]; exact Nat.le_refl _)
      have e2 : its.drop k = [] := List.drop_eq_nil_of_le (by rw [HL.out, HK.out]; exact Nat.le_refl _)
      refine ⟨by rw [hr.out, e1]; rfl, ?_, hK.out⟩
      have := hW.out
      rw [e1, e2, List.map_nil] at this
      simpa [mgII] using this
theorem mkI_at {its : List It} {k : Nat} {t : It} {k0 : Int} (h : its[k]? = some t) : (⟨t.A, t.n, (marks (k0 + (sumN (its.take k) : Nat)) t.n).map i64⟩ : Seg) ∈ mkI its k0 := by
  have e : mkI its k0 = mkI (its.take k ++ t :: its.drop (k + 1)) k0 := by rw [← drop_at h, List.take_append_drop]
  rw [e, mkI_app, mkI]
  simp
set_option maxHeartbeats 2000000 in
theorem heldInt64SS_c (A : Option Addr) (n c : Nat) (its : List It) (k0 : Int) (w : World) (h : RdS w (mgII A n its k0)) (hn : n ≤ 1000000000) (hi0 : ∀ t ∈ its, t.n ≤ 1000000000) (hs0 : sumN its ≤ 1000000000) (h0 : 0 ≤ k0) (h1 : k0 ≤ 10000000000) :
    Calls Try.prog 28 #[.slice A n c, .int .i64 k0] w fun e w' => e = .returned (.int .i64 (k0 + (sumN its : Nat))) ∧ Below w.heap.size w w' := by
  have HL := Lib.hid (show its.length = n by have := h.head.1; simpa using this)
  have H := Lib.hid h; have HI := Lib.hid hi0; clear h hi0
  go_enter Try.func28, Try.ntmps28
  go_wp2_with fail
  go_loopw [1, 5] (fun kv iv wr => ∃ (k : Nat) (kk : Int), k ≤ n ∧ iv = .int .i64 k ∧ kv = .int .i64 kk ∧ 0 ≤ kk ∧ kk ≤ k0 + 1000000000 ∧ Hid (kk = k0 + (sumN (its.take k) : Nat)) ∧ Below w.heap.size w wr) (fun _ iv _ => n - (intOf iv).toNat)
  case atStart => exact ⟨0, k0, by omega, rfl, rfl, h0, by omega, by simp [Hid, sumN], below_size⟩
  case round =>
    obtain ⟨k, kk, hk, rfl, rfl, hkk0, hkk1, hr, hb⟩ := hrel
    have HB := Lib.hid hb
    by_cases hlt : k < n
    · have hl : k < its.length := by rw [HL.out]; exact hlt
      have ht : its[k]? = some its[k] := List.getElem?_eq_getElem hl
      obtain ⟨ad, v, e, hab, hv, hc⟩ := (H.out.below hb).head.at_ (k := k) (by simpa using hlt)
      simp only at e; subst e
      simp only [List.getElem?_map, ht, Option.map_some] at hv
      injection hv with hv; subst hv
      have hti := HI.out _ (List.mem_of_getElem? ht)
      have HS := Lib.hid (sumN_take ht); have HSL := Lib.hid (sumN_le (its := its) (k := k + 1))
      have R := Lib.hid (RdS.one ((H.out.below hb).tail _ (mkI_at (k0 := k0) ht)))
      rw [← hr.out] at R
      generalize its[k] = t at *
      obtain ⟨tA, tn, tc, txs⟩ := t
      simp only [hdI] at hc hti
      clear ht hb
      go_wp2_with fail
      refine (heldInt64S_r tA tn tc txs _ _ (by exact R.out) hti (by omega) (by omega)).mono ?_
      rintro e w1 ⟨rfl, hb⟩
      have T := Lib.hid (below_chain HB.out HB.out.size hb); clear hb
      go_wp2_with fail
      go_roundw
      case rel => exact ⟨k + 1, kk + tn, by omega, by go_num, by go_num, by omega, by have h1 := hr.out; have h2 := HS.out; have h3 := HSL.out; (try simp only at h2); omega, by have h1 := hr.out; have h2 := HS.out; (try simp only at h2); unfold Hid; omega, T.out⟩
      case measure => simp [intOf]; omega
    · have e1 := Lib.hid (show its.take k = its from List.take_of_length_le (by rw [HL.out]; omega))
      clear hb
      go_wp2_with fail
      go_ret
      exact ⟨by rw [hr.out, e1.out]; rfl, HB.out⟩
theorem markInt64SS_c (A : Option Addr) (n c : Nat) (its : List It) (lo hi : Nat) (k0 : Int) (w : World) (h : WrS w lo hi (sgII A n its)) (hn : n ≤ 1000000000) (hi0 : ∀ t ∈ its, t.n ≤ 1000000000) (hs0 : sumN its ≤ 1000000000) (h0 : 0 ≤ k0) (h1 : k0 ≤ 10000000000) :
    Calls Try.prog 27 #[.slice A n c, .int .i64 k0] w fun e w' => e = .returned (.int .i64 (k0 + (sumN its : Nat))) ∧ WrS w' lo hi (mgII A n its k0) ∧ KeepR lo hi w w' :=
  (markInt64SS_g A n c its lo hi [] [] k0 w (by simpa using h) hn hi0 hs0 h0 h1).mono fun _ _ ⟨he, hw, hk⟩ => ⟨he, by simpa using hw, hk⟩
theorem heldInt64SS_r (A : Option Addr) (n c : Nat) (its : List It) (k0 : Int) (w : World) (h : RdS w (mgII A n its k0)) (hn : n ≤ 1000000000) (hi0 : ∀ t ∈ its, t.n ≤ 1000000000) (hs0 : sumN its ≤ 1000000000) (h0 : 0 ≤ k0) (h1 : k0 ≤ 10000000000) :
    Calls Try.prog 28 #[.slice A n c, .int .i64 k0] w fun e w' => e = .returned (.int .i64 (k0 + (sumN its : Nat))) ∧ Below w.heap.size w w' := heldInt64SS_c A n c its k0 w h hn hi0 hs0 h0 h1
theorem markInt64S_g (A : Option Addr) (n c : Nat) (xs : List Int) (lo hi : Nat) (pre post : List Seg) (k0 : Int) (w : World) (h : WrS w lo hi (pre ++ ([sgI A n xs] ++ post))) (hn : n ≤ 1000000000) (h0 : 0 ≤ k0) (h1 : k0 ≤ 100000000000) :
    Calls Try.prog 17 #[.slice A n c, .int .i64 k0] w fun e w' => e = .returned (.int .i64 (k0 + n)) ∧ WrS w' lo hi (pre ++ ([⟨A, n, (marks k0 n).map i64⟩] ++ post)) ∧ KeepR lo hi w w' := by
  obtain ⟨l, r, hw, hkp, hset⟩ := (show WrS w lo hi (pre ++ sgI A n xs :: post) from h).range
  exact (markInt64S_c A n c l r _ k0 w hw (by omega) h0 (by omega)).mono fun _ w' ⟨he, hw1, hk1⟩ => ⟨he, hset w' _ hk1 hw1, hkp w' hk1⟩
theorem eqInt64SS_t (A : Option Addr) (n c : Nat) (its : List It) (A' : Option Addr) (n' c' : Nat) (its' : List It) (w : World) (h : RdS w (sgII A n its)) (h' : RdS w (sgII A' n' its')) (hn : n ≤ 1000000000) (hi0 : ∀ t ∈ its, t.n ≤ 1000000000) (he0 : its.map It.xs = its'.map It.xs) :
    Calls Try.prog 24 #[.slice A n c, .slice A' n' c'] w fun e w' => e = .returned (.bool true) ∧ Below w.heap.size w w' := eqInt64SS_s A n c its A' n' c' its' w h h' hn hi0 he0
end Go.Proofs.Ytmmgejnhfpfmnaa
