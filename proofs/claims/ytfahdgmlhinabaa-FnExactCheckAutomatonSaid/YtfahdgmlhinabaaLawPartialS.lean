/-
  The helpers of the laws at []Partial.
-/
import Derived.Test.YtfahdgmlhinabaaLawII
import Derived.Test.YtfahdgmlhinabaaLawPartial
namespace Go.Proofs.Ytfahdgmlhinabaa
open Go.RowKit

/-- a partial configuration in memory, as an element -/
structure Pt where
  st : Int
  at_ : Int
  A : Option Addr
  n : Nat
  c : Nat
  xs : List Int
def hdP (t : Pt) : List Value := [i64 t.st, i64 t.at_, .slice t.A t.n t.c]
def bodyP (t : Pt) : Seg := sgI t.A t.n t.xs
def datP (t : Pt) : Int × Int × List Int := (t.st, t.at_, t.xs)
def sgPS (A : Option Addr) (n : Nat) (ps : List Pt) : List Seg := ⟨A, n * 3, ps.flatMap hdP⟩ :: ps.map bodyP
theorem hdP_len (t : Pt) : (hdP t).length = 3 := rfl
def sumP : List Pt → Nat
  | [] => 0
  | t :: l => t.n + 2 + sumP l
theorem sumP_app : ∀ a b : List Pt, sumP (a ++ b) = sumP a + sumP b
  | [], b => by simp [sumP]
  | t :: a, b => by simp only [List.cons_append, sumP, sumP_app a b]; omega
theorem sumP_take {ps : List Pt} {k : Nat} {t : Pt} (h : ps[k]? = some t) : sumP (ps.take (k + 1)) = sumP (ps.take k) + t.n + 2 := by rw [take_at h, sumP_app]; simp [sumP]; omega
theorem sumP_le {ps : List Pt} {k : Nat} : sumP (ps.take k) ≤ sumP ps := by
  have := sumP_app (ps.take k) (ps.drop k)
  rw [List.take_append_drop] at this; omega
/-- the elements, marked from k on -/
def markP : List Pt → Int → List Pt
  | [], _ => []
  | t :: l, k => { t with st := k, at_ := k + 1, xs := marks (k + 1 + 1) t.n } :: markP l (k + 1 + 1 + t.n)
theorem markP_len : ∀ (l : List Pt) (k : Int), (markP l k).length = l.length
  | [], k => rfl
  | t :: l, k => by simp [markP, markP_len l]
theorem markP_app : ∀ (a b : List Pt) (k : Int), markP (a ++ b) k = markP a k ++ markP b (k + (sumP a : Nat))
  | [], b, k => by simp [markP, sumP]
  | t :: a, b, k => by simp only [List.cons_append, markP, sumP, markP_app a b]; congr 3; omega
theorem markP_at {ps : List Pt} {k : Nat} {t : Pt} {k0 : Int} (h : ps[k]? = some t) : (markP ps k0)[k]? = some { t with st := k0 + (sumP (ps.take k) : Nat), at_ := k0 + (sumP (ps.take k) : Nat) + 1, xs := marks (k0 + (sumP (ps.take k) : Nat) + 1 + 1) t.n } := by
  conv => lhs; rw [← List.take_append_drop k ps, drop_at h, markP_app, markP]
  have hl : (markP (ps.take k) k0).length = k := by rw [markP_len, List.length_take]; have := (List.getElem?_eq_some_iff.1 h).1; omega
  rw [List.getElem?_append_right (by omega), hl, Nat.sub_self]; rfl
theorem flat_set {M D : List Pt} {t : Pt} {k : Nat} (hk : M.length = k) (j : Nat) (hj : j < 3) (u : Value) : ((M ++ t :: D).flatMap hdP).set (k * 3 + j) u = M.flatMap hdP ++ ((hdP t).set j u ++ D.flatMap hdP) := by
  rw [List.flatMap_append, List.set_append_right _ _ (by rw [flatX_len hdP 3 hdP_len, hk]; omega), flatX_len hdP 3 hdP_len, hk, Nat.add_sub_cancel_left, List.flatMap_cons, List.set_append_left _ _ (by rw [hdP_len]; exact hj)]
theorem flat_set0 {M D : List Pt} {t : Pt} {k : Nat} (hk : M.length = k) (v : Int) : ((M ++ t :: D).flatMap hdP).set (k * 3) (i64 v) = (M ++ { t with st := v } :: D).flatMap hdP := by
  have := flat_set (t := t) (D := D) hk 0 (by omega) (i64 v)
  rw [Nat.add_zero] at this
  rw [this]; simp [hdP]
theorem flat_set1 {M D : List Pt} {t : Pt} {k : Nat} (hk : M.length = k) (v : Int) : ((M ++ t :: D).flatMap hdP).set (k * 3 + 1) (i64 v) = (M ++ { t with at_ := v } :: D).flatMap hdP := by
  rw [flat_set (t := t) (D := D) hk 1 (by omega) (i64 v)]; simp [hdP]
section
variable {w w' : World} {A : Option Addr} {n : Nat} {ps : List Pt}
theorem RdPS.len (h : RdS w (sgPS A n ps)) : ps.length = n := by have := h.head.1; simp only [flatX_len hdP 3 hdP_len] at this; omega
theorem RdPS.at_ {k : Nat} (h : RdS w (sgPS A n ps)) (hk : k < n) : ∃ ad t, A = some ad ∧ ad.block < w.heap.size ∧ ps[k]? = some t ∧ w.cell? (ad.add (k * 3)) = some (i64 t.st) ∧ w.cell? ⟨(ad.add (k * 3)).block, (ad.add (k * 3)).off + 1, none⟩ = some (i64 t.at_) ∧
    w.cell? ⟨(ad.add (k * 3)).block, (ad.add (k * 3)).off + 2, none⟩ = some (.slice t.A t.n t.c) ∧ RdS w [sgI t.A t.n t.xs] := by
  have hl := RdPS.len h
  have ht : ps[k]? = some ps[k] := List.getElem?_eq_getElem (by omega)
  obtain ⟨ad, e, hb, hc⟩ := h.head.2 (by simp; omega)
  have h0 := flatX_at hdP 3 hdP_len ps k 0 _ ht (by omega)
  have h1 := flatX_at hdP 3 hdP_len ps k 1 _ ht (by omega)
  have h2 := flatX_at hdP 3 hdP_len ps k 2 _ ht (by omega)
  exact ⟨ad, ps[k], e, hb, ht, hc _ _ h0, by rw [next_off ad (k * 3) 0]; exact hc _ _ h1, by rw [next_off ad (k * 3) 1]; exact hc _ _ h2, RdS.one (h.tail (bodyP ps[k]) (List.mem_map_of_mem (List.getElem_mem (by omega))))⟩
theorem RdPS.size {t : Pt} (h : RdS w (sgPS A n ps)) (ht : t ∈ ps) : t.xs.length = t.n := by
  have := (h.tail (bodyP t) (List.mem_map_of_mem ht)).1
  simpa [bodyP, sgI] using this
end

set_option maxHeartbeats 1000000 in
theorem eqPartialS_t (A : Option Addr) (n c : Nat) (ps : List Pt) (A' : Option Addr) (n' c' : Nat) (ps' : List Pt) (w : World) (h : RdS w (sgPS A n ps)) (h' : RdS w (sgPS A' n' ps')) (hn : n ≤ 1000000000) (hi0 : ∀ t ∈ ps, t.n ≤ 1000000000) (he0 : ps.map datP = ps'.map datP) :
    Calls Try.prog 26 #[.slice A n c, .slice A' n' c'] w fun e w' => e = .returned (.bool true) ∧ Below w.heap.size w w' := by
  have hnn : n' = n := by have := congrArg List.length he0; simp at this; rw [← RdPS.len h, ← RdPS.len h', this]
  subst hnn
  have H := Lib.hid h; have H' := Lib.hid h'; have HI := Lib.hid hi0; have HE := Lib.hid he0; clear h h' hi0 he0
  have hne : ((n' : Int) != (n' : Int)) = false := by simp
  go_enter Try.func26, Try.ntmps26
  go_wp2_with fail
  go_loopw [5] (fun i wr => ∃ k : Nat, k ≤ n' ∧ i = .int .i64 k ∧ Below w.heap.size w wr) (fun i _ => n' - (intOf i).toNat)
  case atStart => exact ⟨0, by omega, rfl, below_size⟩
  case round =>
    obtain ⟨k, hk, rfl, hb⟩ := hrel
    have HB := Lib.hid hb
    by_cases hlt : k < n'
    · obtain ⟨ad, t, rfl, hab, ht, hc0, hc1, hc2, hrd⟩ := RdPS.at_ (H.out.below hb) hlt
      obtain ⟨ad', t', rfl, hab', ht', hd0, hd1, hd2, hrd'⟩ := RdPS.at_ (H'.out.below hb) hlt
      have hxx : datP t = datP t' := by
        have := congrArg (fun l => l[k]?) HE.out
        simpa [ht, ht'] using this
      obtain ⟨s1, a1, B1, m1, c1, xs1⟩ := t
      obtain ⟨s2, a2, B2, m2, c2, xs2⟩ := t'
      simp only [datP, Prod.mk.injEq] at hxx
      obtain ⟨rfl, rfl, rfl⟩ := hxx
      have hti := HI.out _ (List.mem_of_getElem? ht)
      have R := Lib.hid hrd; have R' := Lib.hid hrd'
      clear ht ht' hb hrd hrd'
      have x0 := Ext.cell hc0; have x1 := Ext.cell hc1; have x2 := Ext.cell hc2; have y0 := Ext.cell hd0; have y1 := Ext.cell hd1; have y2 := Ext.cell hd2
      go_wp2_with fail
      refine Mix.wp_region_mix [0, 0, 0, 3, 0, 0, 0, 3, 1, 0] (fun w' => ∃ x : Ext wr, w' = x.w) (by kernel_rfl) (by kernel_rfl) (InExt.drew _) ?_
      repeat (first | (refine Mix.wpMix_read (by rfl) ?_; go_big_quiet_step (fail); refine wpQuiet_nil ?_) | (refine Mix.wpMix_pure (by rfl) ?_; go_big_quiet_step (fail); refine wpQuiet_nil ?_))
      refine Mix.wpMix_chg (by rfl) (fun K hK => ?_)
      go_wp2_with fail
      refine (eqPartial_t _ _ B1 m1 c1 xs1 B2 m2 c2 _ (by exact R.out.drew) (by exact R'.out.drew) hti).mono ?_
      rintro e w1 ⟨rfl, hb⟩
      have em := below_of_drew hb
      go_wp2_with fail
      refine hK _ _ ⟨⟨_, em⟩, rfl⟩ ?_
      clear hK K
      repeat (first | (refine Mix.wpMix_read (by rfl) ?_; go_big_quiet_step (fail); refine wpQuiet_nil ?_) | (refine Mix.wpMix_pure (by rfl) ?_; go_big_quiet_step (fail); refine wpQuiet_nil ?_))
      (refine Mix.wpMix_nil ?_; try simp only [Exit.then])
      go_wp2_with fail
      go_roundw
      case rel => exact ⟨k + 1, by omega, by go_num, below_chain HB.out HB.out.size em⟩
      case measure => simp [intOf]; omega
    · clear hb
      go_wp2_with fail
      go_ret
      exact ⟨rfl, HB.out⟩
set_option maxHeartbeats 2000000 in
theorem markPartialS_c (A : Option Addr) (n c : Nat) (ps : List Pt) (lo hi : Nat) (k0 : Int) (w : World) (h : WrS w lo hi (sgPS A n ps)) (hn : n ≤ 1000000000) (hi0 : ∀ t ∈ ps, t.n ≤ 1000000000) (hs0 : sumP ps ≤ 1000000000) (h0 : 0 ≤ k0) (h1 : k0 ≤ 10000000000) :
    Calls Try.prog 29 #[.slice A n c, .int .i64 k0] w fun e w' => e = .returned (.int .i64 (k0 + (sumP ps : Nat))) ∧ WrS w' lo hi (sgPS A n (markP ps k0)) ∧ KeepR lo hi w w' := by
  have HL := Lib.hid (RdPS.len h.rd)
  have H := Lib.hid h; have HI := Lib.hid hi0; clear h hi0
  go_enter Try.func29, Try.ntmps29
  go_wp2_with fail
  go_loopw [1, 5] (fun kv iv wr => ∃ (k : Nat) (kk : Int), k ≤ n ∧ iv = .int .i64 k ∧ kv = .int .i64 kk ∧ 0 ≤ kk ∧ kk ≤ k0 + 1000000000 ∧ Hid (kk = k0 + (sumP (ps.take k) : Nat)) ∧ Hid (WrS wr lo hi (sgPS A n (markP (ps.take k) k0 ++ ps.drop k))) ∧ Hid (KeepR lo hi w wr)) (fun _ iv _ => n - (intOf iv).toNat)
  case atStart => exact ⟨0, k0, by omega, rfl, rfl, h0, by omega, by simp [Hid, sumP], by simpa [Hid, markP] using H.out, KeepR.refl _ _ _⟩
  case round =>
    obtain ⟨k, kk, hk, rfl, rfl, hkk0, hkk1, hr, hW, hK⟩ := hrel
    by_cases hlt : k < n
    · obtain ⟨ad, t, rfl, hab, ht0, hc0, hc1, hc2, hrd⟩ := RdPS.at_ hW.out.rd hlt
      have hml : (markP (ps.take k) k0).length = k := by rw [markP_len, List.length_take, HL.out]; omega
      have ht : ps[k]? = some t := by rw [List.getElem?_append_right (by omega), hml, Nat.sub_self, List.getElem?_drop] at ht0; exact ht0
      have hti := HI.out _ (List.mem_of_getElem? ht)
      have HS := Lib.hid (sumP_take ht); have HSL := Lib.hid (sumP_le (ps := ps) (k := k + 1))
      have hd := drop_at ht
      have hW0 : WrS wr lo hi ([] ++ ⟨some ad, n * 3, (markP (ps.take k) k0 ++ t :: ps.drop (k + 1)).flatMap hdP⟩ :: (markP (ps.take k) k0 ++ t :: ps.drop (k + 1)).map bodyP) := by have := hW.out; rw [hd] at this; exact this
      obtain ⟨hW1, hK1⟩ := hW0.set_at rfl (k := k * 3) (by simp; omega) (i64 kk)
      have hf0 : wr.frozen? (ad.add (k * 3)) = false := by
        obtain ⟨a, v, e, _, _, _, _, _, hf⟩ := (WrS.head (show WrS wr lo hi (_ :: _) from hW0)).at_ (k := k * 3) (by simp; omega)
        injection e with e; subst e; exact hf
      rw [flat_set0 hml kk] at hW1
      obtain ⟨hW2, hK2⟩ := hW1.set_at rfl (k := k * 3 + 1) (by simp; omega) (i64 (kk + 1))
      have hf1 : (wr.setCell (ad.add (k * 3)) (i64 kk)).frozen? (ad.add (k * 3 + 1)) = false := by
        obtain ⟨a, v, e, _, _, _, _, _, hf⟩ := (WrS.head (show WrS _ lo hi (_ :: _) from hW1)).at_ (k := k * 3 + 1) (by simp; omega)
        injection e with e; subst e; exact hf
      have hc1' : (wr.setCell (ad.add (k * 3)) (i64 kk)).cell? (ad.add (k * 3 + 1)) = some (i64 t.at_) := by
        rw [World.cell?_setCell_other _ _ _ _ (fun e => by have := congrArg Addr.off e; rw [off_add, off_add] at this; omega), ← next_off ad (k * 3) 0]; exact hc1
      have hc2' : ((wr.setCell (ad.add (k * 3)) (i64 kk)).setCell (ad.add (k * 3 + 1)) (i64 (kk + 1))).cell? (ad.add (k * 3 + 2)) = some (.slice t.A t.n t.c) := by
        rw [World.cell?_setCell_other _ _ _ _ (fun e => by have := congrArg Addr.off e; rw [off_add, off_add] at this; omega), World.cell?_setCell_other _ _ _ _ (fun e => by have := congrArg Addr.off e; rw [off_add, off_add] at this; omega), ← next_off ad (k * 3) 1]; exact hc2
      rw [flat_set1 hml (kk + 1)] at hW2
      have a1 : (⟨(ad.add (k * 3)).block, (ad.add (k * 3)).off + 1, none⟩ : Addr) = ad.add (k * 3 + 1) := next_off ad (k * 3) 0
      have a2 : (⟨(ad.add (k * 3)).block, (ad.add (k * 3)).off + 2, none⟩ : Addr) = ad.add (k * 3 + 2) := next_off ad (k * 3) 1
      rw [← a1] at hf1 hc1' hc2' hW2 hK2
      rw [← a2] at hc2'
      have W2 := Lib.hid hW2; have K2 := Lib.hid (hK.out.trans (hK1.trans hK2))
      have HT := Lib.hid ht; have HML := Lib.hid hml
      clear hW0 hW1 hW2 hK1 hK2 hrd ht ht0 hd hc1 hc2 a1 a2 hml
      go_wp2_with fail
      have hW3 := W2.out
      obtain ⟨tst, tat, tA, tn, tc, txs⟩ := t
      simp only at hti
      rw [List.map_append, List.map_cons] at hW3
      have hW3' : WrS _ lo hi ((⟨some ad, n * 3, (markP (ps.take k) k0 ++ ⟨kk, kk + 1, tA, tn, tc, txs⟩ :: ps.drop (k + 1)).flatMap hdP⟩ :: (markP (ps.take k) k0).map bodyP) ++ sgI tA tn txs :: (ps.drop (k + 1)).map bodyP) := hW3
      obtain ⟨l, r, hw, hkp, hset⟩ := hW3'.range
      have HSET := Lib.hid hset; have HKP := Lib.hid hkp
      clear hset hkp hW3 hW3'
      refine (markInt64S_c tA tn tc l r _ _ _ hw (by omega) (by omega) (by omega)).mono ?_
      rintro e w1 ⟨rfl, hw1, hk1⟩
      have W4 := Lib.hid (HSET.out _ _ hk1 hw1); have K4 := Lib.hid (K2.out.trans (HKP.out _ hk1))
      clear HSET HKP hw hw1 hk1 hf0 hf1 hc1' hc2' hc0
      go_wp2_with fail
      go_roundw
      case rel =>
        refine ⟨k + 1, kk + 1 + 1 + tn, by omega, by go_num, by go_num, by omega, by have h1 := hr.out; have h2 := HS.out; have h3 := HSL.out; (try simp only at h2); omega, by have h1 := hr.out; have h2 := HS.out; (try simp only at h2); unfold Hid; omega, ?_, K4.out⟩
        unfold Hid
        rw [take_at HT.out, markP_app, ← hr.out]
        have := W4.out
        simpa [sgPS, markP, bodyP, sgI, hdP] using this
      case measure => simp [intOf]; omega
    · have HK := Lib.hid (show k = n by omega)
      go_wp2_with fail
      go_ret
      have e1 : ps.take k = ps := List.take_of_length_le (by rw [HL.out, HK.out]; exact Nat.le_refl _)
      have e2 : ps.drop k = [] := List.drop_eq_nil_of_le (by rw [HL.out, HK.out]; exact Nat.le_refl _)
      refine ⟨by rw [hr.out, e1]; rfl, ?_, hK.out⟩
      have := hW.out
      rwa [e1, e2, List.append_nil] at this
set_option maxHeartbeats 2000000 in
theorem heldPartialS_c (A : Option Addr) (n c : Nat) (ps : List Pt) (k0 : Int) (w : World) (h : RdS w (sgPS A n (markP ps k0))) (hn : n ≤ 1000000000) (hi0 : ∀ t ∈ ps, t.n ≤ 1000000000) (hs0 : sumP ps ≤ 1000000000) (h0 : 0 ≤ k0) (h1 : k0 ≤ 10000000000) :
    Calls Try.prog 30 #[.slice A n c, .int .i64 k0] w fun e w' => e = .returned (.int .i64 (k0 + (sumP ps : Nat))) ∧ Below w.heap.size w w' := by
  have HL := Lib.hid (show ps.length = n by rw [← RdPS.len h, markP_len])
  have H := Lib.hid h; have HI := Lib.hid hi0; clear h hi0
  go_enter Try.func30, Try.ntmps30
  go_wp2_with fail
  go_loopw [1, 5] (fun kv iv wr => ∃ (k : Nat) (kk : Int), k ≤ n ∧ iv = .int .i64 k ∧ kv = .int .i64 kk ∧ 0 ≤ kk ∧ kk ≤ k0 + 1000000000 ∧ Hid (kk = k0 + (sumP (ps.take k) : Nat)) ∧ Below w.heap.size w wr) (fun _ iv _ => n - (intOf iv).toNat)
  case atStart => exact ⟨0, k0, by omega, rfl, rfl, h0, by omega, by simp [Hid, sumP], below_size⟩
  case round =>
    obtain ⟨k, kk, hk, rfl, rfl, hkk0, hkk1, hr, hb⟩ := hrel
    have HB := Lib.hid hb
    by_cases hlt : k < n
    · obtain ⟨ad, t0, rfl, hab, ht0, hc0, hc1, hc2, hrd⟩ := RdPS.at_ (H.out.below hb) hlt
      have hl : k < ps.length := by rw [HL.out]; exact hlt
      have ht : ps[k]? = some ps[k] := List.getElem?_eq_getElem hl
      rw [markP_at ht, ← hr.out] at ht0
      injection ht0 with ht0; subst ht0
      have hti := HI.out _ (List.mem_of_getElem? ht)
      have HS := Lib.hid (sumP_take ht); have HSL := Lib.hid (sumP_le (ps := ps) (k := k + 1))
      generalize ps[k] = t at *
      obtain ⟨tst, tat, tA, tn, tc, txs⟩ := t
      simp only at hc0 hc1 hc2 hrd hti
      have R := Lib.hid hrd
      have g0 : (kk != kk) = false := by simp
      have g1 : (kk + 1 != kk + 1) = false := by simp
      clear ht hb hrd
      go_wp2_with fail
      refine (heldInt64S_r tA tn tc txs _ _ (by exact R.out) hti (by omega) (by omega)).mono ?_
      rintro e w1 ⟨rfl, hb⟩
      have T := Lib.hid (below_chain HB.out HB.out.size hb); clear hb
      go_wp2_with fail
      go_roundw
      case rel => exact ⟨k + 1, kk + 1 + 1 + tn, by omega, by go_num, by go_num, by omega, by have h1 := hr.out; have h2 := HS.out; have h3 := HSL.out; (try simp only at h2); omega, by have h1 := hr.out; have h2 := HS.out; (try simp only at h2); unfold Hid; omega, T.out⟩
      case measure => simp [intOf]; omega
    · have e1 := Lib.hid (show ps.take k = ps from List.take_of_length_le (by rw [HL.out]; omega))
      clear hb
      go_wp2_with fail
      go_ret
      exact ⟨by rw [hr.out, e1.out]; rfl, HB.out⟩
end Go.Proofs.Ytfahdgmlhinabaa
