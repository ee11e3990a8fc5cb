/-
  The helpers of the laws at [][]int64, in the form of rows.
-/
import Derived.Test.YtfbmjlohdhogmaaDoorSegI
namespace Go.Proofs.YtfbmjlohdhogmaaDoor
open Go.RowKit

/-- one slice of numbers, as an element -/
structure It where
  A : Option Addr
  n : Nat
  c : Nat
  xs : List Int
def hdI (t : It) : Value := .slice t.A t.n t.c
def bodyI (t : It) : Seg := sgI t.A t.n t.xs
def sgII (A : Option Addr) (n : Nat) (its : List It) : List Seg := ⟨A, n, its.map hdI⟩ :: its.map bodyI
def sumN : List It → Nat
  | [] => 0
  | t :: l => t.n + sumN l
theorem sumN_app : ∀ a b : List It, sumN (a ++ b) = sumN a + sumN b
  | [], b => by simp [sumN]
  | t :: a, b => by simp only [List.cons_append, sumN, sumN_app a b]; omega
theorem sumN_take {its : List It} {k : Nat} {t : It} (h : its[k]? = some t) : sumN (its.take (k + 1)) = sumN (its.take k) + t.n := by rw [take_at h, sumN_app]; simp [sumN]
theorem sumN_le {its : List It} {k : Nat} : sumN (its.take k) ≤ sumN its := by
  have := sumN_app (its.take k) (its.drop k)
  rw [List.take_append_drop] at this; omega
theorem sumN_mem {its : List It} {t : It} (h : t ∈ its) : t.n ≤ sumN its := by
  obtain ⟨k, hk⟩ := List.mem_iff_getElem?.1 h
  have h1 := sumN_take hk
  have h2 := sumN_le (its := its) (k := k + 1)
  omega
/-- .. and marked -/
def mkI : List It → Int → List Seg
  | [], _ => []
  | t :: l, k => ⟨t.A, t.n, (marks k t.n).map i64⟩ :: mkI l (k + t.n)
def mgII (A : Option Addr) (n : Nat) (its : List It) (k0 : Int) : List Seg := ⟨A, n, its.map hdI⟩ :: mkI its k0
theorem mkI_app : ∀ (a b : List It) (k : Int), mkI (a ++ b) k = mkI a k ++ mkI b (k + (sumN a : Nat))
  | [], b, k => by simp [mkI, sumN]
  | t :: a, b, k => by simp only [List.cons_append, mkI, sumN, mkI_app a b]; congr 3; omega

section
variable {w w' : World} {A : Option Addr} {n : Nat} {its : List It}
theorem RdII.len (h : RdS w (sgII A n its)) : its.length = n := by have := h.head.1; simpa using this
theorem RdII.at_ {k : Nat} (h : RdS w (sgII A n its)) (hk : k < n) : ∃ ad t, A = some ad ∧ ad.block < w.heap.size ∧ its[k]? = some t ∧ w.cell? (ad.add k) = some (.slice t.A t.n t.c) ∧ RdS w [sgI t.A t.n t.xs] := by
  have hl := RdII.len h
  have ht : its[k]? = some its[k] := List.getElem?_eq_getElem (by omega)
  obtain ⟨ad, v, e, hb, hv, hc⟩ := h.head.at_ hk
  rw [List.getElem?_map, ht] at hv
  injection hv with hv; subst hv
  refine ⟨ad, _, e, hb, ht, hc, RdS.one ?_⟩
  exact h.tail (bodyI its[k]) (List.mem_map_of_mem (List.getElem_mem (by omega)))
theorem RdII.size {t : It} (h : RdS w (sgII A n its)) (ht : t ∈ its) : t.xs.length = t.n := by
  have := (h.tail (bodyI t) (List.mem_map_of_mem ht)).1
  simpa [bodyI, sgI] using this
end

set_option maxHeartbeats 1000000 in
theorem szInt64SS_s (A : Option Addr) (n c : Nat) (its : List It) (left : Int) (w : World) (h : RdS w (sgII A n its)) (hn : n ≤ 9223372036854775807) (hi : ∀ t ∈ its, t.n ≤ 9223372036854775807) (hl : 0 ≤ left) (hl' : left ≤ 1000000000000) :
    Calls Tryd.prog 53 #[.slice A n c, .int .i64 left] w fun e w' => e = .returned (.int .i64 (szOf left (n + sumN its))) ∧ Below w.heap.size w w' := by
  have HL := Lib.hid (RdII.len h)
  have H := Lib.hid h; have HI := Lib.hid hi; clear h hi
  by_cases g : left < (n : Int)
  · have HE := Lib.hid (show szOf left (n + sumN its) = -1 from szOf_neg' (by omega))
    have g' : left - (n : Int) < 0 := by omega
    go_enter Tryd.func53, Tryd.ntmps53
    go_wp2_with fail
    go_ret
    exact ⟨by rw [HE.out]; rfl, below_size⟩
  go_enter Tryd.func53, Tryd.ntmps53
  go_wp2_with fail
  go_loopw [1, 5] (fun lv iv wr => ∃ k : Nat, k ≤ n ∧ iv = .int .i64 k ∧ ∃ l : Int, lv = .int .i64 l ∧ 0 ≤ l ∧ l ≤ left ∧ Hid (l = left - n - (sumN (its.take k) : Nat)) ∧ Below w.heap.size w wr) (fun _ iv _ => n - (intOf iv).toNat)
  case atStart => exact ⟨0, by omega, rfl, left - n, rfl, by omega, by omega, by simp [Hid, sumN], below_size⟩
  case round =>
    obtain ⟨k, hk, rfl, l, rfl, hl0, hl1, hr, hb⟩ := hrel
    have HB := Lib.hid hb
    by_cases hlt : k < n
    · obtain ⟨ad, t, rfl, hab, ht, hc, hrd⟩ := RdII.at_ (H.out.below hb) hlt
      have hti := HI.out t (List.mem_of_getElem? ht)
      have HS := Lib.hid (sumN_take ht)
      have HT := Lib.hid (sumN_le (its := its) (k := k + 1))
      clear ht hrd hb
      go_wp2_with fail
      refine (szInt64S_s t.A t.n t.c t.xs _ _ hti (by omega) (by omega)).mono ?_
      rintro e w1 ⟨rfl, hb1⟩
      have T := Lib.hid (below_chain HB.out HB.out.size hb1); clear hb1
      by_cases g2 : l < (t.n : Int)
      · have HE := Lib.hid (show szOf left (n + sumN its) = -1 from szOf_neg' (by have h1 := hr.out; have h2 := HS.out; have h3 := HT.out; omega))
        rw [szOf_neg' g2]
        go_wp2_with fail
        go_ret
        exact ⟨by rw [HE.out]; rfl, T.out⟩
      · rw [szOf_pos' (by omega)]
        have HR := Lib.hid (show l - (t.n : Int) = left - n - (sumN (its.take (k + 1)) : Nat) by have h1 := hr.out; have h2 := HS.out; omega)
        clear hr
        go_wp2_with fail
        go_roundw
        case rel => exact ⟨k + 1, by omega, by go_num, l - t.n, rfl, by omega, by omega, HR.out, T.out⟩
        case measure => simp [intOf]; omega
    · have HE := Lib.hid (show szOf left (n + sumN its) = l by
        have h1 := hr.out
        rw [List.take_of_length_le (by rw [HL.out]; omega)] at h1
        rw [szOf_pos' (by omega)]; omega)
      clear hb hr
      go_wp2_with fail
      go_ret
      exact ⟨by rw [HE.out]; rfl, HB.out⟩
theorem hi_of {w w' : World} {A A' : Option Addr} {n n' B : Nat} {its js : List It} (h : RdS w (sgII A n its)) (h' : RdS w' (sgII A' n' js)) (hx : js.map It.xs = its.map It.xs) (hi : ∀ t ∈ its, t.n ≤ B) : ∀ t ∈ js, t.n ≤ B := by
  intro t ht
  have h1 := RdII.size h' ht
  have h2 : t.xs ∈ its.map It.xs := by rw [← hx]; exact List.mem_map_of_mem ht
  obtain ⟨u, hu, e⟩ := List.mem_map.1 h2
  have h3 := RdII.size h hu
  have := hi u hu
  rw [← h1, ← e, h3]; exact this
/-- a row whose first cells are known, the others zero -/
def fillL (vs : List Value) (z : Value) (m : Nat) : Array Value := (vs ++ List.replicate m z).toArray
theorem fillL_at (vs : List Value) (z : Value) (m : Nat) : (fillL vs z (m + 1))[vs.length]? = some z := by
  unfold fillL
  rw [List.getElem?_toArray, List.getElem?_append_right (Nat.le_refl _), Nat.sub_self]; simp
theorem fillL_all (vs : List Value) (z : Value) (n : Nat) (h : vs.length = n) : (fillL vs z 0).toList.take n = vs := by subst h; simp [fillL]
theorem fillL_set (vs : List Value) (z v : Value) (m : Nat) : (fillL vs z (m + 1)).setIfInBounds vs.length v = fillL (vs ++ [v]) z m := by
  unfold fillL
  rw [List.setIfInBounds_toArray, List.set_append_right _ _ (Nat.le_refl _), Nat.sub_self, List.replicate_succ, List.set_cons_zero, List.append_assoc]
  rfl
theorem info_I64S2 : (Tryd.prog.info? 22).map (fun i => (i.zero, i.size, i.bytes)) = some (some (.slice none 0 0), 1, 24) := by kernel_rfl
set_option maxHeartbeats 2000000 in
theorem toInt64SS_s (A : Option Addr) (n c : Nat) (its : List It) (w : World) (h : RdS w (sgII A n its)) (hn : n ≤ 1000000000) (hi : ∀ t ∈ its, t.n ≤ 1000000000) :
    Calls Tryd.prog 56 #[.slice A n c] w fun e w' => ∃ g its', e = .returned (.slice (some ⟨g, 0, none⟩) n n) ∧ its'.map It.xs = its.map It.xs ∧ WrS w' w.heap.size w'.heap.size (sgII (some ⟨g, 0, none⟩) n its') ∧ Below w.heap.size w w' := by
  have HL := Lib.hid (RdII.len h)
  have H := Lib.hid h; have HI := Lib.hid hi; clear h hi
  have hmk := run_mk (P := Tryd.prog) 48 22 (.slice none 0 0) 24 Tryd.underlying48 info_I64S2 rfl .i64 .i64 n n (Nat.le_refl _) (by omega) (by omega)
  go_enter Tryd.func56, Tryd.ntmps56
  go_wp2
  clear hmk
  go_loopw [4] (fun iv wr => ∃ (k : Nat) (js : List It), k ≤ n ∧ iv = .int .i64 k ∧ Hid (js.length = k) ∧ Hid (js.map It.xs = (its.take k).map It.xs) ∧ Blk wr w.heap.size 22 (fillL (js.map hdI) (.slice none 0 0) (n - k)) ∧ WrS wr (w.heap.size + 1) wr.heap.size (js.map bodyI) ∧ Below w.heap.size w wr) (fun iv _ => n - (intOf iv).toNat)
  case atStart =>
    refine ⟨0, [], by omega, rfl, rfl, rfl, ?_, WrS.nil, below_size.alloc (Nat.le_refl _) _⟩
    have := Blk.new w 22 (Array.replicate n (.slice none 0 0))
    simpa [fillL] using this
  case round =>
    obtain ⟨k, js, hk, rfl, hjl, hjx, hblk, hws, hb⟩ := hrel
    have HB := Lib.hid hblk; have HW := Lib.hid hws; have Hb := Lib.hid hb
    have hlt0 := hblk.lt
    by_cases hlt : k < n
    · obtain ⟨ad, t, rfl, hab, ht, hc, hrd⟩ := RdII.at_ (H.out.below hb) hlt
      have hti := HI.out t (List.mem_of_getElem? ht)
      have HT := Lib.hid ht; have HR := Lib.hid hrd
      clear ht hrd hblk hws hb
      go_wp2_with fail
      refine (toInt64S_s t.A t.n t.c t.xs _ HR.out hti).mono ?_
      rintro e w1 ⟨g, rfl, hw, hb1⟩
      obtain ⟨m, hm⟩ : ∃ m, n - k = m + 1 := ⟨n - k - 1, by omega⟩
      have hN := HB.out.keep hb1
      rw [hm] at hN
      have d0 := hN.cell k; have f0 := hN.frozen k
      rw [show k = (js.map hdI).length by rw [List.length_map]; exact hjl.out.symm, fillL_at] at d0
      rw [show (js.map hdI).length = k by rw [List.length_map]; exact hjl.out] at d0
      have N := Lib.hid hN
      have Q := Lib.hid ((HW.out.below hb1).append hw (by omega) hb1.size)
      have T := Lib.hid (below_chain Hb.out Hb.out.size hb1)
      have HM := Lib.hid hm
      clear hN hw hb1 hm
      go_wp2
      go_roundw
      case rel =>
        refine ⟨k + 1, js ++ [⟨some ⟨g, 0, none⟩, t.n, t.n, t.xs⟩], by omega, by go_num, by unfold Hid; rw [List.length_append, hjl.out]; rfl, by unfold Hid; rw [take_at HT.out]; simp [hjx.out], ?_, ?_, T.out.setCell (by simp) _⟩
        · have h2 := N.out.set_ k (.slice (some ⟨g, 0, none⟩) t.n t.n)
          rw [show k = (js.map hdI).length by rw [List.length_map]; exact hjl.out.symm, fillL_set] at h2
          rw [show (js.map hdI).length = k by rw [List.length_map]; exact hjl.out] at h2
          rw [show n - (k + 1) = m by have := HM.out; omega, List.map_append]
          exact h2
        · rw [List.map_append]
          have h3 := Q.out.set_far (p := ⟨w.heap.size, k, none⟩) (.inl (by simp)) (.slice (some ⟨g, 0, none⟩) t.n t.n)
          simpa [bodyI] using h3
      case measure => simp [intOf]; omega
    · have HK := Lib.hid (show k = n by omega)
      clear hblk hws hb
      go_wp2
      go_ret
      refine ⟨w.heap.size, js, rfl, ?_, ?_, Hb.out⟩
      · rw [hjx.out, List.take_of_length_le (by rw [HL.out]; omega)]
      · have hb := HB.out
        rw [show n - k = 0 by omega] at hb
        refine WrS.cons1 (mid := w.heap.size + 1) (hb.wr (Nat.le_refl _) (by omega) (fillL_all _ _ _ (by rw [List.length_map, hjl.out, HK.out])) (by simp [fillL, hjl.out, HK.out])) HW.out (by omega) (by have := hb.lt; omega)
set_option maxHeartbeats 1000000 in
theorem eqInt64SS_s (A : Option Addr) (n c : Nat) (its : List It) (A' : Option Addr) (n' c' : Nat) (its' : List It) (w : World) (h : RdS w (sgII A n its)) (h' : RdS w (sgII A' n' its')) (hn : n ≤ 1000000000) (hi : ∀ t ∈ its, t.n ≤ 1000000000) (he : its.map It.xs = its'.map It.xs) :
    Calls Tryd.prog 60 #[.slice A n c, .slice A' n' c'] w fun e w' => e = .returned (.bool true) ∧ Below w.heap.size w w' := by
  have hnn : n' = n := by have := congrArg List.length he; simp at this; rw [← RdII.len h, ← RdII.len h', this]
  subst hnn
  have H := Lib.hid h; have H' := Lib.hid h'; have HI := Lib.hid hi; have HE := Lib.hid he; clear h h' hi he
  have hne : ((n' : Int) != (n' : Int)) = false := by simp
  go_enter Tryd.func60, Tryd.ntmps60
  go_wp2_with fail
  go_loopw [5] (fun i wr => ∃ k : Nat, k ≤ n' ∧ i = .int .i64 k ∧ Below w.heap.size w wr) (fun i _ => n' - (intOf i).toNat)
  case atStart => exact ⟨0, by omega, rfl, below_size⟩
  case round =>
    obtain ⟨k, hk, rfl, hb⟩ := hrel
    have HB := Lib.hid hb
    by_cases hlt : k < n'
    · obtain ⟨ad, t, rfl, hab, ht, hc, hrd⟩ := RdII.at_ (H.out.below hb) hlt
      obtain ⟨ad', t', rfl, hab', ht', hc', hrd'⟩ := RdII.at_ (H'.out.below hb) hlt
      have hxx : t.xs = t'.xs := by
        have := congrArg (fun l => l[k]?) HE.out
        simpa [ht, ht'] using this
      rw [← hxx] at hrd'
      have hti := HI.out t (List.mem_of_getElem? ht)
      have R := Lib.hid hrd; have R' := Lib.hid hrd'
      clear ht ht' hb hrd hrd' hxx
      have x0 := Ext.cell hc; have y0 := Ext.cell hc'
      go_wp2_with fail
      refine Mix.wp_region_mix [0, 0, 0, 3, 0, 0, 0, 3, 1, 0] (fun w' => ∃ x : Ext wr, w' = x.w) (by kernel_rfl) (by kernel_rfl) (InExt.drew _) ?_
      repeat (first | (refine Mix.wpMix_read (by rfl) ?_; go_big_quiet_step (fail); refine wpQuiet_nil ?_) | (refine Mix.wpMix_pure (by rfl) ?_; go_big_quiet_step (fail); refine wpQuiet_nil ?_))
      refine Mix.wpMix_chg (by rfl) (fun K hK => ?_)
      go_wp2_with fail
      refine (eqInt64S_s t.A t.n t.c t.xs t'.A t'.n t'.c _ (by exact R.out.drew) (by exact R'.out.drew) hti).mono ?_
      rintro e w1 ⟨rfl, hb⟩
      have em := below_of_drew hb
      go_wp2_with fail
      refine hK _ _ ⟨⟨_, em⟩, rfl⟩ ?_
      clear hK K
      repeat (first | (refine Mix.wpMix_read (by rfl) ?_; go_big_quiet_step (fail); refine wpQuiet_nil ?_) | (refine Mix.wpMix_pure (by rfl) ?_; go_big_quiet_step (fail); refine wpQuiet_nil ?_))
      (refine Mix.wpMix_nil ?_; try simp only [Exit.then])
      go_wp2_with fail
      go_roundw
      case rel => exact ⟨k + 1, by omega, by go_num, below_chain HB.out HB.out.size em⟩
      case measure => simp [intOf]; omega
    · clear hb
      go_wp2_with fail
      go_ret
      exact ⟨rfl, HB.out⟩
end Go.Proofs.YtfbmjlohdhogmaaDoor
