/-
  Contracts of chapter 22: the operands of an expression.
-/
import Derived.Test.YtkchgjegdmcnaaaDoorCWl
import Derived.Test.YtkchgjegdmcnaaaDoorConcat
namespace Go.Proofs.YtkchgjegdmcnaaaDoor
open Go.RowKit

/-- an operand: a part of the slice -/
def itO (ad : Addr) (cp : Nat) (l : List (Int × Int)) (i : Nat) : ItV := ⟨some (ad.add (posE l i * 2)), posE l (i + 1) - posE l i, cp - posE l i, (opdE l i).flatMap enc2⟩
def itsO (ad : Addr) (cp : Nat) (l : List (Int × Int)) (k : Nat) : List ItV := (List.range k).map (itO ad cp l)
theorem itsO_succ (ad : Addr) (cp : Nat) (l : List (Int × Int)) (k : Nat) : itsO ad cp l (k + 1) = itsO ad cp l k ++ [itO ad cp l k] := by simp [itsO, List.range_succ]
theorem itsO_at {ad : Addr} {cp : Nat} {l : List (Int × Int)} {k i : Nat} (h : i < k) : (itsO ad cp l k)[i]? = some (itO ad cp l i) := by simp [itsO, h]
theorem itsO_mem {ad : Addr} {cp : Nat} {l : List (Int × Int)} {k : Nat} {t : ItV} (h : t ∈ itsO ad cp l k) : ∃ i, i < k ∧ t = itO ad cp l i := by
  obtain ⟨i, hi, rfl⟩ := List.mem_map.1 h
  exact ⟨i, by simpa using hi, rfl⟩
theorem itO_rd {w : World} {ad : Addr} {n cp : Nat} {x : Int × Int} {l : List (Int × Int)} {i : Nat} (h : Rd2 w (some ad) n (x :: l)) (he : isE (x :: l)) (hi : i < manyE x.1) : Rd2 w (itO ad cp l i).A (itO ad cp l i).n (opdE l i) := by
  obtain ⟨h1, h2, h3, _, _, h4⟩ := opd_ok he hi
  have hl := h.len
  rw [List.length_cons] at hl
  have h5 := h.part (posE l i) (posE l (i + 1) - posE l i) (by omega)
  rw [show (x :: l).drop (posE l i) = l.drop (posE l i - 1) by rw [show posE l i = (posE l i - 1) + 1 by omega, List.drop_succ_cons]; rfl] at h5
  exact h5
/-- the operands of an expression that is read at ad -/
def OpsOut (ad : Addr) (cp : Nat) (l : List (Int × Int)) (m : Nat) (w : World) (e : Ending) (w' : World) : Prop := ∃ G gc, e = .returned (.slice G m gc) ∧ RdV w' 2 G m (itsO ad cp l m) ∧ (∀ a, G = some a → w.heap.size ≤ a.block) ∧ Below w.heap.size w w'
set_option maxHeartbeats 2000000 in
set_option maxRecDepth 100000 in
theorem operands_c (ad : Addr) (n cp : Nat) (t v : Int) (l : List (Int × Int)) (m : Nat) (w : World) (h : Rd2 w (some ad) n ((t, v) :: l)) (hcp : n ≤ cp) (hn : n ≤ 1000000) (he : isE ((t, v) :: l)) (hm : manyE t = m) :
    Calls Tryd.prog 55 #[.slice (some ad) n cp] w (OpsOut ad cp l m w) := by
  have hnl := h.len
  rw [List.length_cons] at hnl
  obtain ⟨_, ea, hab, hc0, hc1⟩ := h.first
  injection ea with ea; subst ea
  simp only at hc0 hc1
  have hm2 : m ≤ 2 := by rw [← hm]; exact manyE_le t
  have H := Lib.hid h; have HE := Lib.hid he; have HM := Lib.hid hm
  have HC := Lib.hid (show ∀ w, Calls Tryd.prog 64 #[.agg #[.int .i64 t, .int .i64 v]] w fun e w' => e = .returned (.int .i64 m) ∧ Below w.heap.size w w' from fun w => by rw [← hm]; exact exprFollow_c t v w)
  have hn0 : 0 < n := by omega
  have d0 := fun o => keepa o hc0
  have d1 := fun o => keepa o hc1
  have HNL := Lib.hid hnl
  clear h he hm hnl
  go_enter Tryd.func55, Tryd.ntmps55
  go_wp2_with (go_at_call 64; refine (HC.out _).mono ?_; rintro e w2 ⟨rfl, hb2⟩)
  have B2 := Lib.hid ((below_size.alloc (Nat.le_refl _) (.cells #[] 40)).trans (hb2.mono (by simp)))
  have O2 := Lib.hid (show Own w2 w.heap.size 40 1 (some ⟨w.heap.size, 0, none⟩) 0 0 [] from (Own.lit (Nat.le_refl _)).keep hb2)
  clear hb2 d0 d1
  go_loopw [3, 4, 11] (fun ov fv iv wr => ∃ (k p gc : Nat) (G : Option Addr), k ≤ m ∧ p ≤ n ∧ iv = .int .i64 k ∧ fv = .int .i64 p ∧ ov = .slice G k gc ∧ Hid (p = posE l k) ∧ Hid (Own wr w.heap.size 40 1 G k gc ((itsO ad cp l k).map hdV)) ∧ Below w.heap.size w wr) (fun _ _ iv _ => m - (intOf iv).toNat)
  case atStart => exact ⟨0, 1, 0, some ⟨w.heap.size, 0, none⟩, by omega, by omega, rfl, rfl, rfl, (posE_zero l).symm, O2.out, B2.out⟩
  case round =>
    obtain ⟨k, p, gc, G, hkm, hpn, rfl, rfl, rfl, hp, hO, hb⟩ := hrel
    have HB := Lib.hid hb
    have hzr := hb.size
    by_cases hlt : k < m
    · obtain ⟨h1, h2, h3, h4, _, _⟩ := opd_ok HE.out (i := k) (by show k < manyE t; rw [HM.out]; exact hlt)
      obtain ⟨z, hz⟩ : ∃ z, posE l (k + 1) = z := ⟨_, rfl⟩
      have hp' := hp.out
      rw [hz, ← hp'] at h2
      rw [hz] at h3 h4
      rw [← hp'] at h4 h1
      have HR := Lib.hid h4; have HZ := Lib.hid hz
      have RX := Lib.hid (H.out.below hb)
      have hpz : p < z := h2
      have hzn : z ≤ n := by have := HNL.out; omega
      have hpc : p < cp := by omega
      have hzc : z ≤ cp := by omega
      have hpm : p ≤ n := by omega
      clear hb h2 h3 h4 hz hp' hc0 hc1
      go_wp2_with (first
        | (go_at_call 63; refine (termEndExpr_c (some ad) n cp ((t, v) :: l) p z wr RX.out (by omega) hpm HR.out).mono ?_; rintro e w3 ⟨rfl, hb3⟩; have B3 := Lib.hid (below_chain HB.out hzr hb3); have O3 := Lib.hid (hO.out.keep hb3); have hz3 := B3.out.size)
        | (at_builtin; refine wp_app1 (by rfl) _ _ 84 40 (.slice none 0 0) 24 (by rfl) Tryd.underlying84 info_sE rfl w.heap.size G k gc ((itsO ad cp l k).map hdV) (by rfl) (by exact O3.out.alloc _) w3.heap.size (.slice (some (ad.add (p * 2))) (z - p) (cp - p)) (by rfl) (by exact new_cell _ _ _ 0) rfl (by omega) (by omega) (by simp; omega) ?_; intro g4 c4 w4 own4 hb4 hk4 hg4 hz4))
      have B4 := Lib.hid ((B3.out.alloc hz3 _).trans hb4)
      have O4 := Lib.hid (show Own w4 w.heap.size 40 1 (some ⟨g4, 0, none⟩) (k + 1) c4 ((itsO ad cp l (k + 1)).map hdV) by
        rw [itsO_succ, List.map_append, List.map_singleton, hdV, itO, ← hp.out, HZ.out]; exact own4)
      clear own4 hb4 hk4 hg4 hz4
      go_roundw
      case rel => exact ⟨k + 1, z, c4, some ⟨g4, 0, none⟩, by omega, hzn, by go_num, rfl, rfl, HZ.out.symm, O4.out, B4.out⟩
      case measure => simp [intOf]; omega
    · obtain rfl : k = m := by omega
      have RX := Lib.hid (H.out.below hb)
      clear hb hc0 hc1
      go_wp2_with fail
      go_ret
      refine ⟨G, gc, rfl, ⟨hO.out.wr.rd, fun t ht => ?_, fun t ht => ?_⟩, fun a ha => (hO.out.block ha).1, HB.out⟩
      · obtain ⟨i, hi, rfl⟩ := itsO_mem ht
        exact itO_rd RX.out HE.out (by show i < manyE _; rw [HM.out]; exact hi)
      · obtain ⟨i, hi, rfl⟩ := itsO_mem ht
        exact one_pairs _
end Go.Proofs.YtkchgjegdmcnaaaDoor
