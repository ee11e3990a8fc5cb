/-
  Contracts of chapter 26: nodes of the search by segments.
-/
import Derived.Test.YtfahdgmlhinabaaC26h
import Derived.Test.YtfahdgmlhinabaaC27
namespace Go.Proofs.Ytfahdgmlhinabaa
open Go.RowKit

/-- a node with a place, a state, and a symbol at a cell, if this is one -/
def segNode (x : List Int) (pl s c : Int) : List Int := if inB pl 0 ((x.length : Int) - 3) then ((x.set 0 pl).set 1 s).set (2 + pl).toNat c else (x.set 0 pl).set 1 s
/-- the node to which a node leads back by a rule -/
def segBack (x : List Int) (p a : Int) (r : Rule3) : Option (List Int) :=
  if (0 ≤ x.getD 1 0 ∧ r.2.2 ≠ x.getD 1 0) ∨ x.getD 0 0 - r.2.1 < -1 ∨ (x.length : Int) - 2 < x.getD 0 0 - r.2.1 then none
  else if x.getD 0 0 - r.2.1 = -1 ∨ x.getD 0 0 - r.2.1 = (x.length : Int) - 2 then (if 0 ≤ x.getD 1 0 then some (segNode x (x.getD 0 0 - r.2.1) (-1) 0) else none)
  else if x.getD (2 + (x.getD 0 0 - r.2.1)).toNat 0 = r.1 ∨ x.getD (2 + (x.getD 0 0 - r.2.1)).toNat 0 = -1 then some (segNode x (x.getD 0 0 - r.2.1) p a) else none
/-- a node that is valid -/
structure NodeOk (sy st : Int) (x : List Int) : Prop where
  len : 3 ≤ x.length ∧ x.length ≤ 11
  at0 : -1 ≤ x.getD 0 0 ∧ x.getD 0 0 ≤ (x.length : Int) - 2
  out : x.getD 0 0 = -1 ∨ x.getD 0 0 = (x.length : Int) - 2 → x.getD 1 0 = -1
  ins : x.getD 0 0 ≠ -1 → x.getD 0 0 ≠ (x.length : Int) - 2 → 0 ≤ x.getD 1 0 ∧ x.getD 1 0 ≤ st - 1
  all : ∀ k, 2 ≤ k → k < x.length → -1 ≤ x.getD k 0 ∧ x.getD k 0 ≤ sy - 1
set_option maxHeartbeats 1000000 in
theorem segmentNode_c (A : Option Addr) (n c : Nat) (x : List Int) (pl s sy : Int) (w : World) (h : RdI w A n x) (hn3 : 3 ≤ n) (hn : n ≤ 100) :
    Calls Try.prog 117 #[.slice A n c, .int .i64 pl, .int .i64 s, .int .i64 sy] w fun e w' => ∃ ao cap, e = .returned (.slice (some ao) n cap) ∧ Wr w' w.heap.size w'.heap.size (some ao) n ((segNode x pl s sy).map i64) ∧ Below w.heap.size w w' := by
  have HL := Lib.hid h.len
  obtain ⟨R, hR⟩ : ∃ R, segNode x pl s sy = R := ⟨_, rfl⟩
  rw [hR]
  obtain ⟨u, hu⟩ : ∃ u, inB pl 0 ((n : Int) - 3) = u := ⟨_, rfl⟩
  have HR := Lib.hid (show R = if u then ((x.set 0 pl).set 1 s).set (2 + pl).toNat sy else (x.set 0 pl).set 1 s by rw [← hR, segNode, HL.out, hu])
  have HU := Lib.hid hu
  clear hR
  go_enter Try.func117, Try.ntmps117
  go_wp2_with fail
  refine (cloneI_c A n c x _ h (by omega) (by omega)).mono ?_
  rintro e w1 ⟨ao, cap, rfl, hw, hb⟩
  have B1 := Lib.hid hb
  have hW1 := hw.set (k := 0) (by omega) (i64 pl)
  have hW2 := hW1.set (k := 1) (by omega) (i64 s)
  have hao : w.heap.size ≤ ao.block := by obtain ⟨a1, v1, e1, h1, _⟩ := hw.at_ (k := 0) (by omega); injection e1 with e1; subst e1; exact h1
  obtain ⟨a0, v0, e0, _, _, _, _, hc0, hf0⟩ := hw.at_ (k := 0) (by omega)
  injection e0 with e0; subst e0
  obtain ⟨a0, v1, e0, _, _, _, _, hc1, hf1⟩ := hW1.at_ (k := 1) (by omega)
  injection e0 with e0; subst e0
  have ea : ao.add 0 = ao := by simp [Addr.add]
  have eb : ao.add 1 = ⟨ao.block, ao.off + 1, none⟩ := by simp [Addr.add]
  rw [ea] at hc0 hf0 hc1 hf1 hW2
  rw [eb] at hc1 hf1 hW2
  have W2 := Lib.hid hW2
  have B2 := Lib.hid ((B1.out.setCell (p := ao) hao (i64 pl)).setCell (p := ⟨ao.block, ao.off + 1, none⟩) hao (i64 s))
  clear hW1 hW2 hw hb ea eb h
  go_wp2_with fail
  refine (sizeI_c _ _ _ _ (by omega)).mono ?_
  rintro e w' ⟨rfl, rfl⟩
  clear hc0 hf0 hc1 hf1
  go_wp2_with fail
  refine (within_b _ _ _ _ hu _).mono ?_
  rintro e w' ⟨rfl, rfl⟩
  clear hu
  cases u
  · go_wp2_with fail
    go_ret
    refine ⟨ao, cap, rfl, ?_, B2.out⟩
    rw [HR.out]
    have := W2.out
    rw [← List.map_set, ← List.map_set] at this
    exact this.wider (Nat.le_refl _) (by simp)
  · have hp := inB_t HU.out
    obtain ⟨pn, rfl⟩ := Int.eq_ofNat_of_zero_le hp.1
    have hpn : 2 + pn < n := by omega
    obtain ⟨a0, v2, e0, _, _, _, _, hc2, hf2⟩ := W2.out.at_ (k := 2 + pn) hpn
    injection e0 with e0; subst e0
    have va : IntKind.i64.wrap (2 + (pn : Int)) = ((2 + pn : Nat) : Int) := (IntWalk.i64_in _ (by omega)).trans (by omega)
    have W3 := Lib.hid (W2.out.set hpn (i64 sy))
    have B3 := Lib.hid (B2.out.setCell (p := ao.add (2 + pn)) (by rw [block_add]; exact hao) (i64 sy))
    go_wp2_with fail
    go_ret
    refine ⟨ao, cap, rfl, ?_, B3.out⟩
    rw [HR.out]
    have := W3.out
    rw [← List.map_set, ← List.map_set, ← List.map_set] at this
    rw [if_pos trivial, show (2 + (pn : Int)).toNat = 2 + pn by omega]
    exact this.wider (Nat.le_refl _) (by simp)
theorem below_of_drewN1 {w w' : World} {k : Nat} (h : Below (w.drewN (k + 1)).heap.size (w.drewN (k + 1)) w') : Below (w.drewN k).heap.size (w.drewN k) w' := ⟨h.os, h.tape, h.output, h.size, h.block⟩
/-- a node, or none -/
def SegOut (o : Option (List Int)) (w : World) (e : Ending) (w' : World) : Prop :=
  ∃ A n c, e = .returned (.tuple #[.slice A n c, .bool o.isSome]) ∧ (∀ y, o = some y → ∃ ao, A = some ao ∧ n = y.length ∧ Wr w' w.heap.size w'.heap.size (some ao) n (y.map i64)) ∧ Below w.heap.size w w'
theorem SegOut.bad {w w' : World} (h : Below w.heap.size w w') : SegOut none w (.returned (.tuple #[.slice none 0 0, .bool false])) w' := ⟨none, 0, 0, rfl, (fun y hy => by cases hy), h⟩
theorem segNode_len (x : List Int) (pl s c : Int) : (segNode x pl s c).length = x.length := by unfold segNode; split <;> simp
theorem getD_at {x : List Int} {k : Nat} {v : Int} (h : x[k]? = some v) : x.getD k 0 = v := by rw [List.getD_eq_getElem?_getD, h]; rfl
set_option maxHeartbeats 2000000 in
theorem segmentBefore_c (sy st : Int) (A : Option Addr) (n c : Nat) (x : List Int) (p a wr_ mv nx : Int) (w : World) (h : RdI w A n x) (hok : NodeOk sy st x) (hmv : mv = 1 ∨ mv = -1) :
    Calls Try.prog 106 #[.slice A n c, .int .i64 p, .int .i64 a, .agg #[.int .i64 wr_, .int .i64 mv, .int .i64 nx]] w (SegOut (segBack x p a (wr_, mv, nx)) w) := by
  have HL := Lib.hid h.len
  have hlen := hok.len
  rw [h.len] at hlen
  obtain ⟨ad, x0, rfl, hab, hx0, hc0⟩ := h.at_ (k := 0) (by omega)
  obtain ⟨ad', x1, e1, _, hx1, hc1⟩ := h.at_ (k := 1) (by omega)
  injection e1 with e1; subst e1
  have ea : ad.add 0 = ad := by simp [Addr.add]
  have eb : ad.add 1 = ⟨ad.block, ad.off + 1, none⟩ := by simp [Addr.add]
  rw [ea] at hc0; rw [eb] at hc1
  have g0 := getD_at hx0; have g1 := getD_at hx1
  have hat := hok.at0
  rw [g0, h.len] at hat
  obtain ⟨R, hR⟩ : ∃ R, segBack x p a (wr_, mv, nx) = R := ⟨_, rfl⟩
  rw [hR]
  obtain ⟨hh, hhd⟩ : ∃ hh, x0 - mv = hh := ⟨_, rfl⟩
  have HR := Lib.hid (show R = if (0 ≤ x1 ∧ nx ≠ x1) ∨ hh < -1 ∨ (n : Int) - 2 < hh then none else if hh = -1 ∨ hh = (n : Int) - 2 then (if 0 ≤ x1 then some (segNode x hh (-1) 0) else none) else if x.getD (2 + hh).toNat 0 = wr_ ∨ x.getD (2 + hh).toNat 0 = -1 then some (segNode x hh p a) else none by
    rw [← hR, segBack, g0, g1, h.len, hhd])
  have hhb : -2 ≤ hh ∧ hh ≤ (n : Int) - 1 := by omega
  have vh : IntKind.i64.wrap (x0 - mv) = hh := (IntWalk.i64_in _ (by omega)).trans hhd
  have vn : IntKind.i64.wrap ((n : Int) - 2) = (n : Int) - 2 := IntWalk.i64_in _ (by omega)
  obtain ⟨w0, hw0⟩ : ∃ w0, w.alloc (.cells #[i64 wr_, i64 mv, i64 nx] 142) = w0 := ⟨_, rfl⟩
  have b0 : Blk w0 w.heap.size 142 #[i64 wr_, i64 mv, i64 nx] := by rw [← hw0]; exact Blk.new w _ _
  have B0 := Lib.hid (show Below w.heap.size w w0 by rw [← hw0]; exact below_size.alloc (Nat.le_refl _) _)
  have H0 := Lib.hid (h.below B0.out)
  have d0 := keepc B0.out hc0; have d1 := keepc B0.out hc1
  have r0 := b0.cell 0; have r1 := b0.cell 1; have r2 := b0.cell 2
  simp at r0 r1 r2
  have HG := Lib.hid hok
  clear hR hhd hok h hx0 hx1 g0 g1 ea eb hc0 hc1 b0
  by_cases c1 : 0 ≤ x1 ∧ nx ≠ x1
  · have HF := Lib.hid (show R = none by rw [HR.out, if_pos (.inl c1)])
    have k1 : decide (0 ≤ x1) = true := decide_eq_true c1.1
    have k2 : (nx != x1) = true := by simpa using c1.2
    clear c1
    go_enter Try.func106, Try.ntmps106
    go_wp2_with (go_at_call 81; refine (sizeI_c _ _ _ _ (by omega)).mono ?_; rintro e w' ⟨rfl, rfl⟩)
    go_quiet (fail)
    go_wp2_with fail
    go_quiet (fail)
    go_wp2_with fail
    go_ret2
    rw [HF.out]
    exact SegOut.bad (below_drewN (below_drewN B0.out _) _)
  have hk : decide (0 ≤ x1) = false ∨ (decide (0 ≤ x1) = true ∧ (nx != x1) = false) := by
    by_cases h1 : 0 ≤ x1
    · exact .inr ⟨decide_eq_true h1, by have : nx = x1 := Classical.not_not.1 fun h2 => c1 ⟨h1, h2⟩; simp [this]⟩
    · exact .inl (decide_eq_false h1)
  have HC1 := Lib.hid c1
  clear c1
  rcases hk with k1 | ⟨k1, k2⟩
  all_goals
    have HK1 := Lib.hid k1
    by_cases c2 : hh < -1
    · have HF := Lib.hid (show R = none by rw [HR.out, if_pos (.inr (.inl c2))])
      have k3 : decide (hh < -1) = true := decide_eq_true c2
      clear c2
      go_enter Try.func106, Try.ntmps106
      go_wp2_with (go_at_call 81; refine (sizeI_c _ _ _ _ (by omega)).mono ?_; rintro e w' ⟨rfl, rfl⟩)
      go_quiet (fail)
      go_wp2_with fail
      go_quiet (fail)
      go_wp2_with fail
      go_ret2
      rw [HF.out]
      exact SegOut.bad (below_drewN (below_drewN B0.out _) _)
    have k3 : decide (hh < -1) = false := decide_eq_false c2
    by_cases c3 : (n : Int) - 2 < hh
    · have HF := Lib.hid (show R = none by rw [HR.out, if_pos (.inr (.inr c3))])
      have k4 : decide ((n : Int) - 2 < hh) = true := decide_eq_true c3
      clear c3 c2
      go_enter Try.func106, Try.ntmps106
      go_wp2_with (go_at_call 81; refine (sizeI_c _ _ _ _ (by omega)).mono ?_; rintro e w' ⟨rfl, rfl⟩)
      go_quiet (fail)
      go_wp2_with fail
      go_quiet (fail)
      go_wp2_with fail
      go_ret2
      rw [HF.out]
      exact SegOut.bad (below_drewN (below_drewN B0.out _) _)
    have k4 : decide ((n : Int) - 2 < hh) = false := decide_eq_false c3
    have HR2 := Lib.hid (show R = if hh = -1 ∨ hh = (n : Int) - 2 then (if 0 ≤ x1 then some (segNode x hh (-1) 0) else none) else if x.getD (2 + hh).toNat 0 = wr_ ∨ x.getD (2 + hh).toNat 0 = -1 then some (segNode x hh p a) else none by
      rw [HR.out, if_neg (fun hx => hx.elim HC1.out (fun hx => hx.elim c2 c3))])
    clear HR
    have hh1 : -1 ≤ hh ∧ hh ≤ (n : Int) - 2 := by omega
    clear c2 c3
    by_cases c4 : hh = -1 ∨ hh = (n : Int) - 2
    · have HF := Lib.hid (show R = if 0 ≤ x1 then some (segNode x hh (-1) 0) else none by rw [HR2.out, if_pos c4])
      have kk : (hh == -1) = true ∨ ((hh == -1) = false ∧ (hh == (n : Int) - 2) = true) := by
        by_cases h1 : hh = -1
        · exact .inl (by simp [h1])
        · exact .inr ⟨by simpa using h1, by simpa using c4.resolve_left h1⟩
      clear c4 HR2
      rcases kk with k5 | ⟨k5, k6⟩
      all_goals
        go_enter Try.func106, Try.ntmps106
        go_wp2_with (go_at_call 81; refine (sizeI_c _ _ _ _ (by omega)).mono ?_; rintro e w' ⟨rfl, rfl⟩)
        go_quiet (fail)
        go_wp2_with fail
        go_quiet (fail)
        go_wp2_with fail
        have y1 := fun (i : Nat) => Ext.cell (show (w0.drewN i).cell? ⟨ad.block, ad.off + 1, none⟩ = some (i64 x1) from d1)
        refine Mix.wp_region_mix [0, 0, 1, 0, 0, 3, 0, 0, 0] (fun w' => ∃ x : Ext (w0.drewN _), w' = x.w) (by kernel_rfl) (by kernel_rfl) (InExt.drew _) ?_
        repeat (first | (refine Mix.wpMix_read (by rfl) ?_; go_big_quiet_step (fail); refine wpQuiet_nil ?_) | (refine Mix.wpMix_pure (by rfl) ?_; go_big_quiet_step (fail); refine wpQuiet_nil ?_))
        refine Mix.wpMix_chg (by rfl) (fun K hK => ?_)
        go_wp2_with fail
        refine (segmentNode_c (some ad) n c x hh (-1) 0 _ (by exact H0.out) (by omega) (by omega)).mono ?_
        rintro e w1 ⟨ao, cap, rfl, hw, hb⟩
        have em := below_of_drewN1 hb
        have W1 := Lib.hid hw
        have hz0 := B0.out.size
        have BB := Lib.hid (below_chain (below_drewN B0.out _) (by exact hz0) em)
        go_wp2_with fail
        refine hK _ _ ⟨⟨_, em⟩, rfl⟩ ?_
        clear hK K
        repeat (first | (refine Mix.wpMix_read (by rfl) ?_; go_big_quiet_step (fail); refine wpQuiet_nil ?_) | (refine Mix.wpMix_pure (by rfl) ?_; go_big_quiet_step (fail); refine wpQuiet_nil ?_))
        (refine Mix.wpMix_nil ?_; try simp only [Exit.then])
        go_wp2_with fail
        go_ret2
        rw [HF.out]
        first
          | (rw [if_neg (of_decide_eq_false HK1.out)]; exact ⟨some ao, n, cap, rfl, (fun y hy => by cases hy), BB.out⟩)
          | (rw [if_pos (of_decide_eq_true HK1.out)]; exact ⟨some ao, n, cap, rfl, (fun y hy => by injection hy with hy; subst hy; exact ⟨ao, rfl, by rw [segNode_len, HL.out], W1.out.wider (by exact hz0) (Nat.le_refl _)⟩), BB.out⟩)
    · have HF := Lib.hid (show R = if x.getD (2 + hh).toNat 0 = wr_ ∨ x.getD (2 + hh).toNat 0 = -1 then some (segNode x hh p a) else none by rw [HR2.out, if_neg c4])
      have k5 : (hh == -1) = false := by simp; omega
      have k6 : (hh == (n : Int) - 2) = false := by simp; omega
      obtain ⟨hN, rfl⟩ := Int.eq_ofNat_of_zero_le (show 0 ≤ hh by omega)
      have hN2 : 2 + hN < n := by omega
      obtain ⟨ad', xv, e1, _, hxv, hcv⟩ := H0.out.at_ (k := 2 + hN) hN2
      injection e1 with e1; subst e1
      have HF2 := Lib.hid (show R = if xv = wr_ ∨ xv = -1 then some (segNode x hN p a) else none by rw [HF.out, show (2 + (hN : Int)).toNat = 2 + hN by omega, getD_at hxv])
      have va : IntKind.i64.wrap (2 + (hN : Int)) = ((2 + hN : Nat) : Int) := (IntWalk.i64_in _ (by omega)).trans (by omega)
      have kk : ((xv == wr_) = true ∧ (xv = wr_ ∨ xv = -1)) ∨ ((xv == wr_) = false ∧ (xv == -1) = true ∧ (xv = wr_ ∨ xv = -1)) ∨ ((xv == wr_) = false ∧ (xv == -1) = false ∧ ¬ (xv = wr_ ∨ xv = -1)) := by
        by_cases h1 : xv = wr_
        · exact .inl ⟨by simp [h1], .inl h1⟩
        · by_cases h2 : xv = -1
          · exact .inr (.inl ⟨by simpa using h1, by simp [h2], .inr h2⟩)
          · exact .inr (.inr ⟨by simpa using h1, by simpa using h2, by omega⟩)
      clear c4 HR2 HF hxv
      rcases kk with ⟨k7, k9⟩ | ⟨k7, k8, k9⟩ | ⟨k7, k8, k9⟩
      all_goals
        have HK9 := Lib.hid k9
        clear k9
        go_enter Try.func106, Try.ntmps106
        go_wp2_with (go_at_call 81; refine (sizeI_c _ _ _ _ (by omega)).mono ?_; rintro e w' ⟨rfl, rfl⟩)
        go_quiet (fail)
        go_wp2_with fail
        go_quiet (fail)
        go_wp2_with fail
        have y1 := fun (i : Nat) => Ext.cell (show (w0.drewN i).cell? (ad.add (2 + hN)) = some (i64 xv) from hcv)
        have y2 := fun (i : Nat) => Ext.cell (show (w0.drewN i).cell? ⟨w.heap.size, 0, none⟩ = some (i64 wr_) from r0)
        refine Mix.wp_region_mix [0, 0, 0, 0, 1, 0, 0, 0, 0, 3, 0, 3, 0, 0, 0, 0, 0, 0, 3, 0, 0, 0, 0] (fun w' => ∃ x : Ext (w0.drewN _), w' = x.w) (by kernel_rfl) (by kernel_rfl) (InExt.drew _) ?_
        repeat (first | (refine Mix.wpMix_read (by rfl) ?_; go_big_quiet_step (fail); refine wpQuiet_nil ?_) | (refine Mix.wpMix_pure (by rfl) ?_; go_big_quiet_step (fail); refine wpQuiet_nil ?_))
        refine Mix.wpMix_chg (by rfl) (fun K hK => ?_)
        go_wp2_with fail
        refine (segmentNode_c (some ad) n c x hN p a _ (by exact H0.out) (by omega) (by omega)).mono ?_
        rintro e w1 ⟨ao, cap, rfl, hw, hb⟩
        have em := below_of_drewN1 hb
        have W1 := Lib.hid hw
        have hz0 := B0.out.size
        have BB := Lib.hid (below_chain (below_drewN B0.out _) (by exact hz0) em)
        go_wp2_with fail
        refine hK _ _ ⟨⟨_, em⟩, rfl⟩ ?_
        clear hK K
        repeat (first | (refine Mix.wpMix_read (by rfl) ?_; go_big_quiet_step (fail); refine wpQuiet_nil ?_) | (refine Mix.wpMix_pure (by rfl) ?_; go_big_quiet_step (fail); refine wpQuiet_nil ?_))
        (refine Mix.wpMix_nil ?_; try simp only [Exit.then])
        go_wp2_with fail
        go_ret2
        rw [HF2.out]
        first
          | (rw [if_pos HK9.out]; exact ⟨some ao, n, cap, rfl, (fun y hy => by injection hy with hy; subst hy; exact ⟨ao, rfl, by rw [segNode_len, HL.out], W1.out.wider (by exact hz0) (Nat.le_refl _)⟩), BB.out⟩)
          | (rw [if_neg HK9.out]; exact ⟨some ao, n, cap, rfl, (fun y hy => by cases hy), BB.out⟩)
end Go.Proofs.Ytfahdgmlhinabaa
