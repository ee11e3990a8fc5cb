/-
  The helpers of the laws at [][]int64, in the form of rows.
-/
import Derived.Test.YtdendllginlidaaGreatDoorSegI
namespace Go.Proofs.YtdendllginlidaaGreatDoor
open Go.RowKit

/-- one slice of numbers, as an element -/
structure It where
  A : Option Addr
  n : Nat
  c : Nat
  xs : List Int
def hdI (t : It) : Value := .slice t.A t.n t.c
def bodyI (t : It) : Seg := sgI t.A t.n t.xs
def sgII (A : Option Addr) (n : Nat) (its : List It) : List Seg := ⟨A, n, its.map hdI⟩ :: its.map bodyI
def sumN : List It → Nat
  | [] => 0
  | t :: l => t.n + sumN l
theorem sumN_app : ∀ a b : List It, sumN (a ++ b) = sumN a + sumN b
  | [], b => by simp [sumN]
  | t :: a, b => by simp only [List.cons_append, sumN, sumN_app a b]; omega
theorem sumN_take {its : List It} {k : Nat} {t : It} (h : its[k]? = some t) : sumN (its.take (k + 1)) = sumN (its.take k) + t.n := by rw [take_at h, sumN_app]; simp [sumN]
theorem sumN_le {its : List It} {k : Nat} : sumN (its.take k) ≤ sumN its := by
  have := sumN_app (its.take k) (its.drop k)
  rw [List.take_append_drop] at this; omega
theorem sumN_mem {its : List It} {t : It} (h : t ∈ its) : t.n ≤ sumN its := by
  obtain ⟨k, hk⟩ := List.mem_iff_getElem?.1 h
  have h1 := sumN_take hk
  have h2 := sumN_le (its := its) (k := k + 1)
  omega
/-- .. and marked -/
def mkI : List It → Int → List Seg
  | [], _ => []
  | t :: l, k => ⟨t.A, t.n, (marks k t.n).map i64⟩ :: mkI l (k + t.n)
def mgII (A : Option Addr) (n : Nat) (its : List It) (k0 : Int) : List Seg := ⟨A, n, its.map hdI⟩ :: mkI its k0
theorem mkI_app : ∀ (a b : List It) (k : Int), mkI (a ++ b) k = mkI a k ++ mkI b (k + (sumN a : Nat))
  | [], b, k => by simp [mkI, sumN]
  | t :: a, b, k => by simp only [List.cons_append, mkI, sumN, mkI_app a b]; congr 3; omega

section
variable {w w' : World} {A : Option Addr} {n : Nat} {its : List It}
theorem RdII.len (h : RdS w (sgII A n its)) : its.length = n := by have := h.head.1; simpa using this
theorem RdII.at_ {k : Nat} (h : RdS w (sgII A n its)) (hk : k < n) : ∃ ad t, A = some ad ∧ ad.block < w.heap.size ∧ its[k]? = some t ∧ w.cell? (ad.add k) = some (.slice t.A t.n t.c) ∧ RdS w [sgI t.A t.n t.xs] := by
  have hl := RdII.len h
  have ht : its[k]? = some its[k] := List.getElem?_eq_getElem (by omega)
  obtain ⟨ad, v, e, hb, hv, hc⟩ := h.head.at_ hk
  rw [List.getElem?_map, ht] at hv
  injection hv with hv; subst hv
  refine ⟨ad, _, e, hb, ht, hc, RdS.one ?_⟩
  exact h.tail (bodyI its[k]) (List.mem_map_of_mem (List.getElem_mem (by omega)))
theorem RdII.size {t : It} (h : RdS w (sgII A n its)) (ht : t ∈ its) : t.xs.length = t.n := by
  have := (h.tail (bodyI t) (List.mem_map_of_mem ht)).1
  simpa [bodyI, sgI] using this
end

theorem hi_of {w w' : World} {A A' : Option Addr} {n n' B : Nat} {its js : List It} (h : RdS w (sgII A n its)) (h' : RdS w' (sgII A' n' js)) (hx : js.map It.xs = its.map It.xs) (hi : ∀ t ∈ its, t.n ≤ B) : ∀ t ∈ js, t.n ≤ B := by
  intro t ht
  have h1 := RdII.size h' ht
  have h2 : t.xs ∈ its.map It.xs := by rw [← hx]; exact List.mem_map_of_mem ht
  obtain ⟨u, hu, e⟩ := List.mem_map.1 h2
  have h3 := RdII.size h hu
  have := hi u hu
  rw [← h1, ← e, h3]; exact this
/-- a row whose first cells are known, the others zero -/
def fillL (vs : List Value) (z : Value) (m : Nat) : Array Value := (vs ++ List.replicate m z).toArray
theorem fillL_at (vs : List Value) (z : Value) (m : Nat) : (fillL vs z (m + 1))[vs.length]? = some z := by
  unfold fillL
  rw [List.getElem?_toArray, List.getElem?_append_right (Nat.le_refl _), Nat.sub_self]; simp
theorem fillL_all (vs : List Value) (z : Value) (n : Nat) (h : vs.length = n) : (fillL vs z 0).toList.take n = vs := by subst h; simp [fillL]
theorem fillL_set (vs : List Value) (z v : Value) (m : Nat) : (fillL vs z (m + 1)).setIfInBounds vs.length v = fillL (vs ++ [v]) z m := by
  unfold fillL
  rw [List.setIfInBounds_toArray, List.set_append_right _ _ (Nat.le_refl _), Nat.sub_self, List.replicate_succ, List.set_cons_zero, List.append_assoc]
  rfl
set_option maxHeartbeats 1000000 in
theorem eqInt64SS_s (A : Option Addr) (n c : Nat) (its : List It) (A' : Option Addr) (n' c' : Nat) (its' : List It) (w : World) (h : RdS w (sgII A n its)) (h' : RdS w (sgII A' n' its')) (hn : n ≤ 1000000000) (hi : ∀ t ∈ its, t.n ≤ 1000000000) (he : its.map It.xs = its'.map It.xs) :
    Calls Tryz.prog 45 #[.slice A n c, .slice A' n' c'] w fun e w' => e = .returned (.bool true) ∧ Below w.heap.size w w' := by
  have hnn : n' = n := by have := congrArg List.length he; simp at this; rw [← RdII.len h, ← RdII.len h', this]
  subst hnn
  have H := Lib.hid h; have H' := Lib.hid h'; have HI := Lib.hid hi; have HE := Lib.hid he; clear h h' hi he
  have hne : ((n' : Int) != (n' : Int)) = false := by simp
  go_enter Tryz.func45, Tryz.ntmps45
  go_wp2_with fail
  go_loopw [5] (fun i wr => ∃ k : Nat, k ≤ n' ∧ i = .int .i64 k ∧ Below w.heap.size w wr) (fun i _ => n' - (intOf i).toNat)
  case atStart => exact ⟨0, by omega, rfl, below_size⟩
  case round =>
    obtain ⟨k, hk, rfl, hb⟩ := hrel
    have HB := Lib.hid hb
    by_cases hlt : k < n'
    · obtain ⟨ad, t, rfl, hab, ht, hc, hrd⟩ := RdII.at_ (H.out.below hb) hlt
      obtain ⟨ad', t', rfl, hab', ht', hc', hrd'⟩ := RdII.at_ (H'.out.below hb) hlt
      have hxx : t.xs = t'.xs := by
        have := congrArg (fun l => l[k]?) HE.out
        simpa [ht, ht'] using this
      rw [← hxx] at hrd'
      have hti := HI.out t (List.mem_of_getElem? ht)
      have R := Lib.hid hrd; have R' := Lib.hid hrd'
      clear ht ht' hb hrd hrd' hxx
      have x0 := Ext.cell hc; have y0 := Ext.cell hc'
      go_wp2_with fail
      refine Mix.wp_region_mix [0, 0, 0, 3, 0, 0, 0, 3, 1, 0] (fun w' => ∃ x : Ext wr, w' = x.w) (by kernel_rfl) (by kernel_rfl) (InExt.drew _) ?_
      repeat (first | (refine Mix.wpMix_read (by rfl) ?_; go_big_quiet_step (fail); refine wpQuiet_nil ?_) | (refine Mix.wpMix_pure (by rfl) ?_; go_big_quiet_step (fail); refine wpQuiet_nil ?_))
      refine Mix.wpMix_chg (by rfl) (fun K hK => ?_)
      go_wp2_with fail
      refine (eqInt64S_s t.A t.n t.c t.xs t'.A t'.n t'.c _ (by exact R.out.drew) (by exact R'.out.drew) hti).mono ?_
      rintro e w1 ⟨rfl, hb⟩
      have em := below_of_drew hb
      go_wp2_with fail
      refine hK _ _ ⟨⟨_, em⟩, rfl⟩ ?_
      clear hK K
      repeat (first | (refine Mix.wpMix_read (by rfl) ?_; go_big_quiet_step (fail); refine wpQuiet_nil ?_) | (refine Mix.wpMix_pure (by rfl) ?_; go_big_quiet_step (fail); refine wpQuiet_nil ?_))
      (refine Mix.wpMix_nil ?_; try simp only [Exit.then])
      go_wp2_with fail
      go_roundw
      case rel => exact ⟨k + 1, by omega, by go_num, below_chain HB.out HB.out.size em⟩
      case measure => simp [intOf]; omega
    · clear hb
      go_wp2_with fail
      go_ret
      exact ⟨rfl, HB.out⟩
end Go.Proofs.YtdendllginlidaaGreatDoor
