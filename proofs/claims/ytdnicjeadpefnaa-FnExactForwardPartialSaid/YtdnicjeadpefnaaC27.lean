/-
  Contracts of chapter 27 (bouncers): shifting over a word; copies of a word.
-/
import Derived.Test.YtdnicjeadpefnaaC03
import Derived.Test.YtdnicjeadpefnaaC05b
import Derived.Test.YtdnicjeadpefnaaApp
namespace Go.Proofs.Ytdnicjeadpefnaa
open Go.RowKit

/-- the rule for a state and a symbol -/
def ruleAt (rs : List Rule3) (sy q c : Int) : Rule3 := rs.getD (q * sy + c).toNat noneR
/-- f: steps that may still be made; n: steps made -/
def shGo (rs : List Rule3) (sy state side : Int) : Nat → Nat → Int → Nat → List Int → (List Int × Int) × Int
  | 0, _, _, _, _ => (([], 0), 3)
  | f + 1, n, now, k, out =>
    if ruleAt rs sy now (out.getD k 0) = noneR then (([], 0), 6)
    else if (k : Int) + (ruleAt rs sy now (out.getD k 0)).2.1 < 0 ∨ (k : Int) + (ruleAt rs sy now (out.getD k 0)).2.1 = out.length then
      if (ruleAt rs sy now (out.getD k 0)).2.2 = state ∧ (ruleAt rs sy now (out.getD k 0)).2.1 = side then ((out.set k (ruleAt rs sy now (out.getD k 0)).1, (n + 1 : Nat)), 0) else (([], 0), 3)
    else shGo rs sy state side f (n + 1) (ruleAt rs sy now (out.getD k 0)).2.2 ((k : Int) + (ruleAt rs sy now (out.getD k 0)).2.1).toNat (out.set k (ruleAt rs sy now (out.getD k 0)).1)
def shStart (side : Int) (n : Nat) : Nat := if side = -1 then n - 1 else 0
def shiftR (sy st : Int) (rs : List Rule3) (state : Int) (ws : List Int) (side : Int) : (List Int × Int) × Int :=
  if !machB sy st rs || !wordB ws || decide (ws = []) then (([], 0), 1)
  else if !inB state 0 (st - 1) || !allB 0 (sy - 1) ws || !(decide (side = 1) || decide (side = -1)) then (([], 0), 2)
  else shGo rs sy state side 200 0 state (shStart side ws.length) ws

theorem inB_iff {n lo hi : Int} : inB n lo hi = true ↔ lo ≤ n ∧ n ≤ hi := by simp [inB]
section
variable {rs : List Rule3} {sy st state side q c p mv nx : Int} {f n k : Nat} {out : List Int}
theorem rule_find (hm : machB sy st rs = true) (hq : 0 ≤ q ∧ q ≤ st - 1) (hc : 0 ≤ c ∧ c ≤ sy - 1) :
    ∃ (j : Nat) (x : Rule3), q * sy + c = (j : Int) ∧ 0 ≤ q * sy ∧ q * sy ≤ 6000 ∧ rs[j]? = some x ∧ ruleAt rs sy q c = x ∧ (x = noneR ∨ (x ≠ noneR ∧ (0 ≤ x.1 ∧ x.1 ≤ sy - 1) ∧ (x.2.1 = 1 ∨ x.2.1 = -1) ∧ (0 ≤ x.2.2 ∧ x.2.2 ≤ st - 1))) := by
  simp only [machB, Bool.and_eq_true, inB_iff, beq_iff_eq, List.all_eq_true] at hm
  obtain ⟨⟨⟨h1, h2⟩, h3⟩, h4⟩ := hm
  have a := Int.mul_nonneg hq.1 (show 0 ≤ sy by omega)
  have b := Int.mul_le_mul_of_nonneg_right hq.2 (show 0 ≤ sy by omega)
  rw [Int.sub_mul] at b
  have e := mul_bd2 h1 h2
  obtain ⟨j, hj⟩ := Int.eq_ofNat_of_zero_le (show 0 ≤ q * sy + c by omega)
  have hlt : j < rs.length := by omega
  refine ⟨j, rs[j], hj, a, by omega, List.getElem?_eq_getElem hlt, ?_, ?_⟩
  · rw [ruleAt, hj, Int.toNat_natCast, List.getD_eq_getElem?_getD, List.getElem?_eq_getElem hlt]; rfl
  · have := h4 _ (List.getElem_mem hlt)
    by_cases hn : rs[j] = noneR
    · exact .inl hn
    · simp only [ruleB, hn, decide_false, Bool.false_or, Bool.and_eq_true, inB_iff, Bool.or_eq_true, beq_iff_eq] at this
      exact .inr ⟨hn, this.1.1, this.1.2, this.2⟩
theorem shGo_none (hc : out[k]? = some c) (hr : ruleAt rs sy q c = noneR) : shGo rs sy state side (f + 1) n q k out = (([], 0), 6) := by
  rw [shGo, show out.getD k 0 = c by rw [List.getD_eq_getElem?_getD, hc]; rfl, if_pos hr]
theorem shGo_out (hc : out[k]? = some c) (hr : ruleAt rs sy q c = (p, mv, nx)) (hn : (p, mv, nx) ≠ noneR) (hl : (k : Int) + mv < 0 ∨ (k : Int) + mv = out.length) :
    shGo rs sy state side (f + 1) n q k out = if nx = state ∧ mv = side then ((out.set k p, ((n + 1 : Nat) : Int)), 0) else (([], 0), 3) := by
  rw [shGo, show out.getD k 0 = c by rw [List.getD_eq_getElem?_getD, hc]; rfl, hr, if_neg hn, if_pos hl]
theorem shGo_on (hc : out[k]? = some c) (hr : ruleAt rs sy q c = (p, mv, nx)) (hn : (p, mv, nx) ≠ noneR) (hl : ¬ ((k : Int) + mv < 0 ∨ (k : Int) + mv = out.length)) {k' : Nat} (hk : (k : Int) + mv = k') :
    shGo rs sy state side (f + 1) n q k out = shGo rs sy state side f (n + 1) nx k' (out.set k p) := by
  rw [shGo, show out.getD k 0 = c by rw [List.getD_eq_getElem?_getD, hc]; rfl, hr, if_neg hn, if_neg hl]
  simp only [hk, Int.toNat_natCast]
theorem set_in (h : ∀ x ∈ out, 0 ≤ x ∧ x ≤ sy - 1) (hp : 0 ≤ p ∧ p ≤ sy - 1) : ∀ x ∈ out.set k p, 0 ≤ x ∧ x ≤ sy - 1 := by
  intro x hx
  rcases List.mem_or_eq_of_mem_set hx with h1 | rfl
  · exact h x h1
  · exact hp
end

theorem l00Own_c (A : Option Addr) (n c : Nat) (ws : List Int) (w : World) (h : RdI w A n ws) (h0 : 0 < n) (hn : n ≤ 1000000) :
    Calls Try.prog 97 #[.slice A n c] w fun e w' => ∃ ao cap, e = .returned (.slice (some ao) n cap) ∧ Wr w' w.heap.size w'.heap.size (some ao) n (ws.map i64) ∧ Below w.heap.size w w' := by
  obtain ⟨hl, hc⟩ := h
  obtain ⟨ad, rfl, hab, hcs⟩ := hc h0
  have HL := Lib.hid hl
  have HC := Lib.hid (show ∀ j u, (ws.map i64)[j]? = some u → (w.alloc (.cells #[] 2)).cell? (ad.add j) = some u from fun j u hj => keepa _ (hcs j u hj))
  clear hl hc hcs
  go_enter Try.func97, Try.ntmps97
  go_wp2_with (at_builtin; refine wp_app (by rfl) _ _ 25 2 (.int .i64 0) 1 8 (by rfl) Try.underlying25 info_i64 rfl (by omega) w.heap.size (some ⟨w.heap.size, 0, none⟩) 0 0 [] (by rfl) (by exact Own.lit (Nat.le_refl _)) ad n c (ws.map i64) (by rfl) h0 (by rw [HL.out, Nat.mul_one]) (by exact HC.out) (by intro u hu; obtain ⟨y, _, rfl⟩ := List.mem_map.1 hu; rfl) (by omega) (by omega) (by simp) ?_; intro g' cap w2 own2 hb2 hk2 hg2 hz2)
  rw [Nat.zero_add, List.nil_append] at own2
  have O2 := Lib.hid own2; have B2 := Lib.hid ((below_size.alloc (Nat.le_refl _) (.cells #[] 2)).trans hb2)
  clear own2 hb2 hk2 hg2 hz2
  go_wp2_with fail
  go_ret
  exact ⟨⟨g', 0, none⟩, cap, by simp, O2.out.wr, B2.out⟩
set_option maxRecDepth 100000 in
theorem cloneI_c (A : Option Addr) (n c : Nat) (ws : List Int) (w : World) (h : RdI w A n ws) (h0 : 0 < n) (hn : n ≤ 1000000) :
    Calls Try.prog 101 #[.slice A n c] w fun e w' => ∃ ao cap, e = .returned (.slice (some ao) n cap) ∧ Wr w' w.heap.size w'.heap.size (some ao) n (ws.map i64) ∧ Below w.heap.size w w' := by
  obtain ⟨hl, hc⟩ := h
  obtain ⟨ad, rfl, hab, hcs⟩ := hc h0
  have HL := Lib.hid hl
  have HC := Lib.hid (show ∀ j u, (ws.map i64)[j]? = some u → (w.alloc (.cells #[] 2)).cell? (ad.add j) = some u from fun j u hj => keepa _ (hcs j u hj))
  clear hl hc hcs
  have he : ∀ w, (binOp BinOp.eql 25 (Value.slice (some ad) n c) (Value.slice none 0 0)).run Try.prog w = .ok (.bool false) w := fun w => by kernel_rfl
  go_enter Try.func101, Try.ntmps101
  go_wp2_with (at_builtin; refine wp_app (by rfl) _ _ 25 2 (.int .i64 0) 1 8 (by rfl) Try.underlying25 info_i64 rfl (by omega) w.heap.size (some ⟨w.heap.size, 0, none⟩) 0 0 [] (by rfl) (by exact Own.lit (Nat.le_refl _)) ad n c (ws.map i64) (by rfl) h0 (by rw [HL.out, Nat.mul_one]) (by exact HC.out) (by intro u hu; obtain ⟨y, _, rfl⟩ := List.mem_map.1 hu; rfl) (by omega) (by omega) (by simp) ?_; intro g' cap w2 own2 hb2 hk2 hg2 hz2)
  rw [Nat.zero_add, List.nil_append] at own2
  have O2 := Lib.hid own2; have B2 := Lib.hid ((below_size.alloc (Nat.le_refl _) (.cells #[] 2)).trans hb2)
  clear own2 hb2 hk2 hg2 hz2
  go_wp2_with fail
  go_ret
  exact ⟨⟨g', 0, none⟩, cap, by simp, O2.out.wr, B2.out⟩

/-- what a shift gives back -/
def ShOut (r : (List Int × Int) × Int) (w : World) (e : Ending) (w' : World) : Prop :=
  ∃ A n c, e = .returned (.tuple #[.slice A n c, .int .i64 r.1.2, .int .i64 r.2]) ∧ Wr w' w.heap.size w'.heap.size A n (r.1.1.map i64) ∧ n ≤ 1000000 ∧ Below w.heap.size w w'
theorem ShOut.bad {w w' : World} (k : Int) (h : Below w.heap.size w w') : ShOut (([], 0), k) w (.returned (.tuple #[.slice none 0 0, .int .i64 0, .int .i64 k])) w' := ⟨none, 0, 0, rfl, Wr.nil, by omega, h⟩

set_option maxHeartbeats 4000000 in
theorem l27Shift_c (g : Nat) (sy st : Int) (A : Option Addr) (n cp : Nat) (rs : List Rule3) (state side : Int) (A' : Option Addr) (m c' : Nat) (ws : List Int) (w : World) (h : MachP w g sy st A n cp rs) (hm : machB sy st rs = true)
    (hn : n ≤ 2000000) (h' : RdI w A' m ws) (h0 : 0 < m) (hm4 : m ≤ 400) (hst : 0 ≤ state ∧ state ≤ st - 1) (hws : ∀ x ∈ ws, 0 ≤ x ∧ x ≤ sy - 1) (hside : side = 1 ∨ side = -1) :
    Calls Try.prog 79 #[.pointer (some ⟨g, 0, none⟩), .int .i64 state, .slice A' m c', .int .i64 side] w (ShOut (shGo rs sy state side 200 0 state (shStart side ws.length) ws) w) := by
  have HL := Lib.hid h.rd.len
  have HL' := Lib.hid h'.len
  have H := Lib.hid h; have HM := Lib.hid hm; have HW := Lib.hid hws
  clear h hm hws
  obtain ⟨k0, hk0, hk1⟩ : ∃ k0 : Nat, shStart side m = k0 ∧ k0 < m := ⟨_, rfl, by unfold shStart; split <;> omega⟩
  obtain ⟨R, hR⟩ : ∃ R, shGo rs sy state side 200 0 state (shStart side ws.length) ws = R := ⟨_, rfl⟩
  rw [hR]
  have HR := Lib.hid (show R = shGo rs sy state side 200 0 state k0 ws by rw [← hR, HL'.out, hk0]); clear hR
  have hsd : (side = 1 ∧ k0 = 0) ∨ (side = -1 ∧ k0 = m - 1) := by
    rcases hside with h | h
    · exact .inl ⟨h, by rw [← hk0, h]; rfl⟩
    · exact .inr ⟨h, by rw [← hk0, h]; rfl⟩
  have HSD := Lib.hid hsd
  clear hsd hk0 hside
  go_enter Try.func79, Try.ntmps79
  go_wp2_with fail
  refine (l00Own_c _ _ _ ws _ h' h0 (by omega)).mono ?_
  rintro e w1 ⟨ao, cap, rfl, ho, hb⟩
  have OW := Lib.hid ho
  have B1 := Lib.hid hb
  clear ho hb h'
  have hw1 : w.heap.size ≤ w1.heap.size := B1.out.size
  rcases HSD.out with ⟨hs1, hs2⟩ | ⟨hs1, hs2⟩
  all_goals
    subst hs1
    have HK := Lib.hid hs2; clear hs2
    go_wp2_with fail
    go_loopw [12, 13, 14] (fun kv qv nv wr => ∃ (nn f k : Nat) (q : Int) (out : List Int), kv = .int .i64 k ∧ qv = .int .i64 q ∧ nv = .int .i64 nn ∧ 1 ≤ nn ∧ f + nn = 201 ∧ k < m ∧ (0 ≤ q ∧ q ≤ st - 1) ∧ Hid (out.length = m) ∧ Hid (∀ x ∈ out, 0 ≤ x ∧ x ≤ sy - 1) ∧ Hid (R = shGo rs sy state _ f (nn - 1) q k out) ∧ Hid (Wr wr w.heap.size w1.heap.size (some ao) m (out.map i64)) ∧ Hid (Below w.heap.size w wr) ∧ w1.heap.size ≤ wr.heap.size) (fun _ _ nv _ => 201 - (intOf nv).toNat)
    case atStart => exact ⟨1, 200, k0, state, ws, (by first | rw [HK.out]; rfl | (rw [HK.out]; go_num) | (simp [HK.out]; omega)), rfl, rfl, by omega, by omega, hk1, hst, HL'.out, HW.out, HR.out, OW.out, B1.out, Nat.le_refl _⟩
    case round =>
      obtain ⟨nn, f, k, q, out, rfl, rfl, rfl, hnn, hfn, hk, hq, hol, hoi, hr, hW, hB, hz⟩ := hrel
      by_cases hlt : nn ≤ 200
      · obtain ⟨ao', cc, eo, hab, hy, hcy⟩ := hW.out.rdI.at_ hk
        injection eo with eo; subst eo
        have hfz : wr.frozen? (ao.add k) = false := by
          obtain ⟨a, v, e, _, _, _, _, _, hf⟩ := hW.out.at_ hk
          injection e with e; subst e; exact hf
        have hcr := hoi.out cc (List.mem_of_getElem? hy)
        obtain ⟨j, x, hj, hm0, hm1, hx, hxr, hxc⟩ := rule_find HM.out hq hcr
        have hP := H.out.below hB.out
        have hjn : j < n := by have h1 := (List.getElem?_eq_some_iff.1 hx).1; have h2 := HL.out; omega
        obtain ⟨ad, x2, rfl, _, hx2, hc0, hc1, hc2⟩ := hP.rd.at_ hjn
        have hx3 : x2 = x := by rw [hx] at hx2; injection hx2 with hx2; exact hx2.symm
        subst hx3
        obtain ⟨p, mv, nx⟩ := x2
        have v1 : IntKind.i64.wrap (q * sy) = q * sy := IntWalk.i64_in _ (by omega)
        have v2 : IntKind.i64.wrap (q * sy + cc) = (j : Int) := (IntWalk.i64_in _ (by omega)).trans hj
        have h0' := hP.c0; have h2' := hP.c2
        have y0 := Ext.cell h0'; have y2 := Ext.cell h2'; have yc := Ext.cell hcy
        have z0 := Ext.cell hc0; have z1 := Ext.cell hc1; have z2 := Ext.cell hc2
        have HY := Lib.hid hy; have HXR := Lib.hid hxr
        have HXC := Lib.hid hxc
        clear hy hxr hxc hx hx2 hj hP h0' h2' hc0 hc1 hc2 hcy
        go_wp2_with fail
        refine Mix.wp_region_mix [0, 0, 0, 3, 0, 0, 0, 0, 3, 0, 0, 0, 0, 3, 0, 0, 3, 1, 2] (fun w' => ∃ x : Ext wr, w' = x.w) (by kernel_rfl) (by kernel_rfl) (InExt.drew _) ?_
        repeat (first | (refine Mix.wpMix_read (by rfl) ?_; go_big_quiet_step (fail); refine wpQuiet_nil ?_) | (refine Mix.wpMix_pure (by rfl) ?_; go_big_quiet_step (fail); refine wpQuiet_nil ?_))
        refine Mix.wpMix_chg (by rfl) (fun K hK => ?_)
        go_wp2_with fail
        refine hK _ _ ⟨⟨_, below_drew (below_size.alloc (Nat.le_refl _) _)⟩, rfl⟩ ?_
        clear hK K
        repeat (first | (refine Mix.wpMix_read (by rfl) ?_; go_big_quiet_step (fail); refine wpQuiet_nil ?_) | (refine Mix.wpMix_pure (by rfl) ?_; go_big_quiet_step (fail); refine wpQuiet_nil ?_))
        refine Mix.wpMix_tail (by rfl) (fun K hK => ?_)
        go_wp2_with fail
        refine hK _ _ ?_
        clear hK K
        (refine Mix.wpMix_nil ?_; try simp only [Exit.then])
        clear y0 y2 yc z0 z1 z2 v1 v2
        go_wp2_with fail
        obtain ⟨wn, hwn⟩ : ∃ wn, (wr.alloc (.cells #[i64 p, i64 mv, i64 nx] 127)).drew = wn := ⟨_, rfl⟩
        rw [hwn]
        have XB := Lib.hid (show Blk wn wr.heap.size 127 #[i64 p, i64 mv, i64 nx] by rw [← hwn]; exact (Blk.new wr _ _).drew)
        have EB := Lib.hid (show Below wr.heap.size wr wn by rw [← hwn]; exact below_drew (below_size.alloc (Nat.le_refl _) _))
        have BN := Lib.hid (hB.out.trans (EB.out.mono (Nat.le_trans hw1 hz)))
        clear hwn
        have b0 := XB.out.cell 0; have b1 := XB.out.cell 1; have b2 := XB.out.cell 2
        simp at b0 b1 b2
        have x0 := Ext.cell b0; have x1 := Ext.cell b1; have x2 := Ext.cell b2
        rcases rule_cases p mv nx with ⟨hnon, hp0, hp1, hp2⟩ | ⟨hnon, hne⟩
        · have HE := Lib.hid (show R = (([], 0), 6) by rw [hr.out, show f = f - 1 + 1 by omega, shGo_none HY.out (HXR.out.trans hnon)])
          subst hp0; subst hp1; subst hp2
          clear hr hnon b0 b1 b2
          refine Mix.wp_region_mix [3, 1, 0] (fun w' => ∃ x : Ext wn, w' = x.w) (by kernel_rfl) (by kernel_rfl) (InExt.drew _) ?_
          repeat (first | (refine Mix.wpMix_read (by rfl) ?_; go_big_quiet_step (fail); refine wpQuiet_nil ?_) | (refine Mix.wpMix_pure (by rfl) ?_; go_big_quiet_step (fail); refine wpQuiet_nil ?_))
          refine Mix.wpMix_chg (by rfl) (fun K hK => ?_)
          go_wp2_with fail
          refine (l05None_c _).mono ?_
          rintro e w2 ⟨rfl, hb⟩
          have em := below_of_drew hb
          go_wp2_with fail
          refine hK _ _ ⟨⟨_, em⟩, rfl⟩ ?_
          clear hK K
          repeat (first | (refine Mix.wpMix_read (by rfl) ?_; go_big_quiet_step (fail); refine wpQuiet_nil ?_) | (refine Mix.wpMix_pure (by rfl) ?_; go_big_quiet_step (fail); refine wpQuiet_nil ?_))
          (refine Mix.wpMix_nil ?_; try simp only [Exit.then])
          go_wp2_with fail
          go_ret3
          rw [HE.out]
          exact ShOut.bad _ (below_chain BN.out BN.out.size em)
        · have hne' := rule_ne p mv nx hne
          clear hne b0 b1 b2
          refine Mix.wp_region_mix [3, 1, 0] (fun w' => ∃ x : Ext wn, w' = x.w) (by kernel_rfl) (by kernel_rfl) (InExt.drew _) ?_
          repeat (first | (refine Mix.wpMix_read (by rfl) ?_; go_big_quiet_step (fail); refine wpQuiet_nil ?_) | (refine Mix.wpMix_pure (by rfl) ?_; go_big_quiet_step (fail); refine wpQuiet_nil ?_))
          refine Mix.wpMix_chg (by rfl) (fun K hK => ?_)
          go_wp2_with fail
          refine (l05None_c _).mono ?_
          rintro e w2 ⟨rfl, hb⟩
          have em := below_of_drew hb
          go_wp2_with fail
          refine hK _ _ ⟨⟨_, em⟩, rfl⟩ ?_
          clear hK K
          repeat (first | (refine Mix.wpMix_read (by rfl) ?_; go_big_quiet_step (fail); refine wpQuiet_nil ?_) | (refine Mix.wpMix_pure (by rfl) ?_; go_big_quiet_step (fail); refine wpQuiet_nil ?_))
          (refine Mix.wpMix_nil ?_; try simp only [Exit.then])
          clear hne' x0 x1 x2
          have hao : ao.block < w1.heap.size := by
            obtain ⟨a, v, e, _, h1, _⟩ := hW.out.at_ hk
            injection e with e; subst e; exact h1
          have X2 := Lib.hid (XB.out.keep em)
          have W2 := Lib.hid ((hW.out.below EB.out).below em)
          have hf2 : w2.frozen? (ao.add k) = false := by
            obtain ⟨a, v, e, _, _, _, _, _, hf⟩ := W2.out.at_ hk
            injection e with e; subst e; exact hf
          obtain ⟨ao2, cc2, eo2, _, _, hcy2⟩ := W2.out.rdI.at_ hk
          injection eo2 with eo2; subst eo2
          have b0 := X2.out.cell 0; simp at b0
          have X3 := Lib.hid (fun u => X2.out.far (p := ao.add k) (show wr.heap.size ≠ (ao.add k).block by rw [block_add]; omega) u)
          have b1 := fun u => (X3.out u).cell 1
          have b2 := fun u => (X3.out u).cell 2
          simp at b1 b2
          obtain ⟨hpr, hmv, hnx⟩ := HXC.out.resolve_left hnon |>.2
          have HS := Lib.hid (show Wr (w2.setCell (ao.add k) (i64 p)) w.heap.size w1.heap.size (some ao) m ((out.set k p).map i64) by rw [List.map_set]; exact W2.out.set hk (i64 p))
          have hao0 : w.heap.size ≤ ao.block := by
            obtain ⟨a, v, e, h1, _⟩ := hW.out.at_ hk
            injection e with e; subst e; exact h1
          have BS := Lib.hid (show Below w.heap.size w (w2.setCell (ao.add k) (i64 p)) from (below_chain BN.out BN.out.size em).setCell (p := ao.add k) (by rw [block_add]; exact hao0) _)
          have hz2 : w1.heap.size ≤ (w2.setCell (ao.add k) (i64 p)).heap.size := by
            have h1 := em.size; have h2 := EB.out.size; simp; omega
          have HSI := Lib.hid (set_in (k := k) hoi.out hpr)
          have HSL := Lib.hid (show (out.set k p).length = m by rw [List.length_set]; exact hol.out)
          have hrf := Lib.hid (hr.out.trans (congrArg (fun f => shGo rs sy state _ f (nn - 1) q k out) (show f = f - 1 + 1 by omega)))
          clear em
          by_cases hl : (k : Int) + mv < 0 ∨ (k : Int) + mv = m
          · have HE := Lib.hid (hrf.out.trans (shGo_out (n := nn - 1) (f := f - 1) (state := state) HY.out HXR.out hnon (by rw [hol.out]; exact hl)))
            have hcase : (mv = -1 ∧ (k : Int) + -1 < 0) ∨ (mv = 1 ∧ k + 1 = m) := by omega
            have HN := Lib.hid (show nn - 1 + 1 = nn by omega)
            clear hl hr hrf hnon hmv HXC
            rcases hcase with ⟨hm1, hl1⟩ | ⟨hm1, hl1⟩
            · subst hm1
              have va : IntKind.i64.wrap ((k : Int) + -1) = (k : Int) + -1 := IntWalk.i64_in _ (by omega)
              by_cases hns : nx = state
              · have hns' : (nx == state) = true := by simpa using hns
                have HNS := Lib.hid hns; clear hns
                go_wp2_with fail
                go_ret3
                rw [HE.out]
                first
                  | (rw [if_neg (by simp)]; exact ShOut.bad _ BS.out)
                  | (rw [if_pos ⟨HNS.out, by trivial⟩, HN.out]; exact ⟨some ao, m, cap, rfl, HS.out.wider (Nat.le_refl _) hz2, by omega, BS.out⟩)
              · have hns' : (nx == state) = false := by simpa using hns
                have HNS := Lib.hid hns; clear hns
                go_wp2_with fail
                go_ret3
                rw [HE.out, if_neg (fun h => HNS.out h.1)]
                exact ShOut.bad _ BS.out
            · subst hm1
              have va : IntKind.i64.wrap ((k : Int) + 1) = (k : Int) + 1 := IntWalk.i64_in _ (by omega)
              have hkm' : (((k : Int) + 1) == (m : Int)) = true := by simp; omega
              by_cases hns : nx = state
              · have hns' : (nx == state) = true := by simpa using hns
                have HNS := Lib.hid hns; clear hns hl1
                go_wp2_with fail
                go_ret3
                rw [HE.out]
                first
                  | (rw [if_neg (by simp)]; exact ShOut.bad _ BS.out)
                  | (rw [if_pos ⟨HNS.out, by trivial⟩, HN.out]; exact ⟨some ao, m, cap, rfl, HS.out.wider (Nat.le_refl _) hz2, by omega, BS.out⟩)
              · have hns' : (nx == state) = false := by simpa using hns
                have HNS := Lib.hid hns; clear hns hl1
                go_wp2_with fail
                go_ret3
                rw [HE.out, if_neg (fun h => HNS.out h.1)]
                exact ShOut.bad _ BS.out
          · have HE := Lib.hid (fun k' hk' => hrf.out.trans (shGo_on (k' := k') (n := nn - 1) (f := f - 1) (state := state) HY.out HXR.out hnon (by rw [hol.out]; exact hl) hk'))
            obtain ⟨k', hk'⟩ := Int.eq_ofNat_of_zero_le (show 0 ≤ (k : Int) + mv by omega)
            have hkm : k' < m := by omega
            have HE2 := Lib.hid (HE.out k' hk')
            have va : IntKind.i64.wrap ((k : Int) + mv) = (k' : Int) := (IntWalk.i64_in _ (by omega)).trans hk'
            have hkm' : ((k' : Int) == (m : Int)) = false := by simp; omega
            clear HE hk' hl hr hnon
            go_wp2_with fail
            go_roundw
            case rel => exact ⟨nn + 1, f - 1, k', nx, out.set k p, rfl, rfl, by go_num, by omega, by omega, hkm, hnx, HSL.out, HSI.out, by have := HE2.out; rw [show nn - 1 + 1 = nn + 1 - 1 by omega] at this; exact this, HS.out, BS.out, hz2⟩
            case measure => simp [intOf]; omega
      · have HE := Lib.hid (show R = (([], 0), 3) by rw [hr.out, show f = 0 by omega, shGo])
        clear hr
        go_wp2_with fail
        go_ret3
        rw [HE.out]
        exact ShOut.bad _ hB.out
end Go.Proofs.Ytdnicjeadpefnaa
