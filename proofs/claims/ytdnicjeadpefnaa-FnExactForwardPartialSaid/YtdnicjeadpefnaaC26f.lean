/-
  Contracts of chapter 26: steps within a segment (ForwardPartial).
-/
import Derived.Test.YtdnicjeadpefnaaC26
import Derived.Test.YtdnicjeadpefnaaC27
import Derived.Test.YtdnicjeadpefnaaMixF
import Derived.Deep.DeepCutAuto
namespace Go.Proofs.Ytdnicjeadpefnaa
open Go.RowKit

/-- f: steps that may still be made; n: steps made; the state, the place, the cells; how it ends -/
def fwGo (rs : List Rule3) (sy : Int) : Nat → Nat → Int → Nat → List Int → (Int × Int × List Int) × Int × Int
  | 0, n, q, k, out => if ruleAt rs sy q (out.getD k 0) = noneR then ((q, (k : Int), out), (n : Int), 0) else ((q, (k : Int), out), (n : Int), 3)
  | f + 1, n, q, k, out =>
    if ruleAt rs sy q (out.getD k 0) = noneR then ((q, (k : Int), out), (n : Int), 0)
    else if (k : Int) + (ruleAt rs sy q (out.getD k 0)).2.1 < 0 then (((ruleAt rs sy q (out.getD k 0)).2.2, k, out.set k (ruleAt rs sy q (out.getD k 0)).1), (n + 1 : Nat), 1)
    else if (k : Int) + (ruleAt rs sy q (out.getD k 0)).2.1 = out.length then (((ruleAt rs sy q (out.getD k 0)).2.2, k, out.set k (ruleAt rs sy q (out.getD k 0)).1), (n + 1 : Nat), 2)
    else fwGo rs sy f (n + 1) (ruleAt rs sy q (out.getD k 0)).2.2 ((k : Int) + (ruleAt rs sy q (out.getD k 0)).2.1).toNat (out.set k (ruleAt rs sy q (out.getD k 0)).1)
def fwR (sy st : Int) (rs : List Rule3) (s a : Int) (xs : List Int) (b : Int) : (Int × Int × List Int) × Int × Int × Int :=
  if !vpartB sy st rs s a xs then ((0, 0, []), 0, 0, 1)
  else if !inB b 1 20000 then ((0, 0, []), 0, 0, 2)
  else ((fwGo rs sy b.toNat 0 s a.toNat xs).1, (fwGo rs sy b.toNat 0 s a.toNat xs).2.1, (fwGo rs sy b.toNat 0 s a.toNat xs).2.2, 0)
section
variable {rs : List Rule3} {sy q c p mv nx : Int} {f n k : Nat} {out : List Int}
theorem fwGo_none (hc : out[k]? = some c) (hr : ruleAt rs sy q c = noneR) : fwGo rs sy f n q k out = ((q, (k : Int), out), (n : Int), 0) := by
  have e : out.getD k 0 = c := by rw [List.getD_eq_getElem?_getD, hc]; rfl
  cases f <;> rw [fwGo, e, if_pos hr]
theorem fwGo_stop (hc : out[k]? = some c) (hr : ruleAt rs sy q c = (p, mv, nx)) (hn : (p, mv, nx) ≠ noneR) : fwGo rs sy 0 n q k out = ((q, (k : Int), out), (n : Int), 3) := by
  have e : out.getD k 0 = c := by rw [List.getD_eq_getElem?_getD, hc]; rfl
  rw [fwGo, e, hr, if_neg hn]
theorem fwGo_left (hc : out[k]? = some c) (hr : ruleAt rs sy q c = (p, mv, nx)) (hn : (p, mv, nx) ≠ noneR) (hl : (k : Int) + mv < 0) : fwGo rs sy (f + 1) n q k out = ((nx, (k : Int), out.set k p), ((n + 1 : Nat) : Int), 1) := by
  have e : out.getD k 0 = c := by rw [List.getD_eq_getElem?_getD, hc]; rfl
  rw [fwGo, e, hr, if_neg hn, if_pos hl]
theorem fwGo_right (hc : out[k]? = some c) (hr : ruleAt rs sy q c = (p, mv, nx)) (hn : (p, mv, nx) ≠ noneR) (hl : (k : Int) + mv = out.length) : fwGo rs sy (f + 1) n q k out = ((nx, (k : Int), out.set k p), ((n + 1 : Nat) : Int), 2) := by
  have e : out.getD k 0 = c := by rw [List.getD_eq_getElem?_getD, hc]; rfl
  rw [fwGo, e, hr, if_neg hn, if_neg (by show ¬ (k : Int) + mv < 0; omega), if_pos hl]
theorem fwGo_on {k' : Nat} (hc : out[k]? = some c) (hr : ruleAt rs sy q c = (p, mv, nx)) (hn : (p, mv, nx) ≠ noneR) (hl : ¬ (k : Int) + mv = out.length) (hk : (k : Int) + mv = k') : fwGo rs sy (f + 1) n q k out = fwGo rs sy f (n + 1) nx k' (out.set k p) := by
  have e : out.getD k 0 = c := by rw [List.getD_eq_getElem?_getD, hc]; rfl
  rw [fwGo, e, hr, if_neg hn, if_neg (by show ¬ (k : Int) + mv < 0; omega), if_neg hl]
  simp only [hk, Int.toNat_natCast]
end
def fwT (G : (Int × Int × List Int) × Int × Int) : (Int × Int × List Int) × Int × Int × Int := (G.1, G.2.1, G.2.2, 0)
/-- what it gives back -/
def FwOut (R : (Int × Int × List Int) × Int × Int × Int) (w : World) (e : Ending) (w' : World) : Prop :=
  ∃ A n c, e = .returned (.tuple #[.agg #[.int .i64 R.1.1, .int .i64 R.1.2.1, .slice A n c], .int .i64 R.2.1, .int .i64 R.2.2.1, .int .i64 R.2.2.2]) ∧ WrS w' w.heap.size w'.heap.size [sgI A n R.1.2.2] ∧ n ≤ 1000000 ∧ Below w.heap.size w w'
theorem Wr.own {w : World} {lo hi n : Nat} {ad : Addr} {vs : List Value} (h : Wr w lo hi (some ad) n vs) : Wr w ad.block (ad.block + 1) (some ad) n vs :=
  ⟨h.1, fun hn => by obtain ⟨a, e, _, _, h3, hc⟩ := h.2 hn; injection e with e; subst e; exact ⟨ad, rfl, Nat.le_refl _, by omega, h3, hc⟩⟩
theorem FwOut.bad {w w' : World} (k : Int) (h : Below w.heap.size w w') : FwOut ((0, 0, []), 0, 0, k) w (.returned (.tuple #[.agg #[i64 0, i64 0, .slice none 0 0], i64 0, i64 0, i64 k])) w' := ⟨none, 0, 0, rfl, WrS.one (A := none) (n := 0) (vs := []) Wr.nil, by omega, h⟩
theorem partB_parts {sy st s a : Int} {xs : List Int} {m : Nat} (h : partB sy st s a xs = true) (hl : xs.length = m) : (0 ≤ s ∧ s ≤ st - 1) ∧ (1 ≤ m ∧ m ≤ 60) ∧ (0 ≤ a ∧ a ≤ (m : Int) - 1) ∧ ∀ x ∈ xs, 0 ≤ x ∧ x ≤ sy - 1 := by
  simp only [partB, Bool.and_eq_true, hl] at h
  have h2 := inB_t h.1.1.2
  exact ⟨inB_t h.1.1.1, by omega, inB_t h.1.2, allB_mem h.2⟩
/-- the result's box filled, at the end -/
theorem FwOut.fin {w w0 w2 : World} {g6 m cap : Nat} {ao : Addr} {q k x y z : Int} {out : List Int} {R : (Int × Int × List Int) × Int × Int × Int} (hR : R = ((q, k, out), x, y, z)) (hb0 : Below w.heap.size w w0) (hb : Below w0.heap.size w0 w2) (hg : g6 < w0.heap.size) (hg' : w.heap.size ≤ g6)
    (ha : w0.heap.size ≤ ao.block) (hW : Wr w2 ao.block (ao.block + 1) (some ao) m (out.map i64)) (hm : 0 < m) (hm' : m ≤ 1000000) {u0 u1 u2 : Value} :
    FwOut R w (.returned (.tuple #[.agg #[.int .i64 q, .int .i64 k, .slice (some ao) m cap], .int .i64 x, .int .i64 y, .int .i64 z])) (((w2.setCell ⟨g6, 0, none⟩ u0).setCell ⟨g6, 1, none⟩ u1).setCell ⟨g6, 2, none⟩ u2) := by
  subst hR
  have hz := hb.size
  have hz0 := hb0.size
  have hao : ao.block < w2.heap.size := by obtain ⟨a, v, e, _, _, h3, _⟩ := hW.at_ (k := 0) hm; injection e with e; subst e; exact h3
  refine ⟨some ao, m, cap, rfl, WrS.one ((((hW.set_far (.inl (by show g6 < _; omega)) _).set_far (.inl (by show g6 < _; omega)) _).set_far (.inl (by show g6 < _; omega)) _).wider (by omega) (by simp; omega)), hm', ?_⟩
  exact (((hb0.trans (hb.mono hz0)).setCell (by show _ ≤ g6; omega) _).setCell (by show _ ≤ g6; omega) _).setCell (by show _ ≤ g6; omega) _
theorem fwBox {w : World} {g : Nat} {t : TypeId} {a0 a1 a2 : Value} (h : Blk w g t #[a0, a1, a2]) (v0 v1 v2 : Value) : Blk (((w.setCell ⟨g, 0, none⟩ v0).setCell ⟨g, 1, none⟩ v1).setCell ⟨g, 2, none⟩ v2) g t #[v0, v1, v2] := by
  have := ((h.set_ 0 v0).set_ 1 v1).set_ 2 v2
  simpa using this
/-- the box of the walk, made -/
def FwCut (t : TypeId) (s an : Int) (m : Nat) (xs : List Int) (w2 : World) (v : Value) (wx : World) : Prop :=
  ∃ (g : Nat) (ao : Addr) (cap : Nat), v = .pointer (some ⟨g, 0, none⟩) ∧ Blk wx g t #[i64 s, i64 an, .slice (some ao) m cap] ∧ Wr wx ao.block (ao.block + 1) (some ao) m (xs.map i64) ∧ ao.block ≠ g ∧ w2.heap.size ≤ g ∧ w2.heap.size ≤ ao.block ∧ Below w2.heap.size w2 wx
theorem fwCut {t : TypeId} {s an : Int} {m g cap : Nat} {xs : List Int} {w2 wb : World} {ao : Addr} (hb : Blk (((wb.setCell ⟨g, 0, none⟩ (i64 s)).setCell ⟨g, 1, none⟩ (i64 an)).setCell ⟨g, 2, none⟩ (.slice (some ao) m cap)) g t #[i64 s, i64 an, .slice (some ao) m cap])
    (hW : Wr wb ao.block (ao.block + 1) (some ao) m (xs.map i64)) (hne : ao.block ≠ g) (hg : w2.heap.size ≤ g) (ha : w2.heap.size ≤ ao.block) (hB : Below w2.heap.size w2 wb) (_hm : 0 < m) :
    FwCut t s an m xs w2 (.pointer (some ⟨g, 0, none⟩)) (((wb.setCell ⟨g, 0, none⟩ (i64 s)).setCell ⟨g, 1, none⟩ (i64 an)).setCell ⟨g, 2, none⟩ (.slice (some ao) m cap)) := by
  refine ⟨g, ao, cap, rfl, hb, ?_, hne, hg, ha, ((hB.setCell (by exact hg) _).setCell (by exact hg) _).setCell (by exact hg) _⟩
  have hx : ∀ i, (⟨g, i, none⟩ : Addr).block < ao.block ∨ ao.block + 1 ≤ (⟨g, i, none⟩ : Addr).block := fun i => by show g < _ ∨ _ ≤ g; omega
  exact ((hW.set_far (hx 0) _).set_far (hx 1) _).set_far (hx 2) _
theorem l05Budget_c (b : Int) (w : World) : Calls Try.prog 96 #[.int .i64 b] w fun e w' => e = .returned (.bool (inB b 1 20000)) ∧ w = w' := by
  go_enter Try.func96, Try.ntmps96
  go_wp2_with (go_at_call 77; refine (l00In_b _ _ _ _ rfl _).mono ?_; rintro e w' ⟨rfl, rfl⟩)
  go_ret
  exact ⟨rfl, rfl⟩
theorem budgetOk_c (b : Int) (w : World) : Calls Try.prog 100 #[.int .i64 b] w fun e w' => e = .returned (.bool (inB b 1 20000)) ∧ w = w' := by
  go_enter Try.func100, Try.ntmps100
  go_wp2_with (go_at_call 83; refine (within_b _ _ _ _ rfl _).mono ?_; rintro e w' ⟨rfl, rfl⟩)
  go_ret
  exact ⟨rfl, rfl⟩
set_option maxHeartbeats 4000000 in
set_option maxRecDepth 100000 in
theorem sForwardPartial_c (sy st : Int) (A : Option Addr) (n cp : Nat) (rs : List Rule3) (s a : Int) (A' : Option Addr) (m c' : Nat) (xs : List Int) (b : Int) (w : World) (h : RdS w [sgX enc3 3 A n rs]) (h' : RdS w [sgI A' m xs]) (hn : n ≤ 1000000000) (hn' : m ≤ 1000000000) :
    Calls Try.prog 36 #[.agg #[.int .i64 sy, .int .i64 st, .slice A n cp], .agg #[.int .i64 s, .int .i64 a, .slice A' m c'], .int .i64 b] w (FwOut (fwR sy st rs s a xs b) w) := by
  replace h : Rd3 w A n rs := h.head
  replace h' : RdI w A' m xs := h'.head
  have HLr := Lib.hid h.len; have HLx := Lib.hid h'.len
  obtain ⟨w0, hw0⟩ : ∃ w0, ((w.alloc (.cells #[i64 sy, i64 st, .slice A n cp] 31)).alloc (.cells #[i64 s, i64 a, .slice A' m c'] 57)).alloc (.cells #[i64 0, i64 0, .slice none 0 0] 57) = w0 := ⟨_, rfl⟩
  have B0 := Lib.hid (show Below w.heap.size w w0 by rw [← hw0]; exact ((below_size.alloc (Nat.le_refl _) _).alloc (by simp) _).alloc (by simp; omega) _)
  have M0 := Lib.hid (show MachP w0 w.heap.size sy st A n cp rs by
    have b0 := ((Blk.new w 31 #[i64 sy, i64 st, .slice A n cp]).alloc (.cells #[i64 s, i64 a, .slice A' m c'] 57)).alloc (.cells #[i64 0, i64 0, .slice none 0 0] 57)
    rw [hw0] at b0
    exact ⟨b0.cell 0, b0.cell 1, b0.cell 2, h.below B0.out⟩)
  have P0 := Lib.hid (show PartP w0 (w.heap.size + 1) s a A' m c' xs by
    have b0 := (Blk.new (w.alloc (.cells #[i64 sy, i64 st, .slice A n cp] 31)) 57 #[i64 s, i64 a, .slice A' m c']).alloc (.cells #[i64 0, i64 0, .slice none 0 0] 57)
    rw [hw0, World.size_alloc] at b0
    exact ⟨b0.cell 0, b0.cell 1, b0.cell 2, h'.below B0.out⟩)
  have O0 := Lib.hid (show Blk w0 (w.heap.size + 1 + 1) 57 #[i64 0, i64 0, .slice none 0 0] by
    have b0 := Blk.new ((w.alloc (.cells #[i64 sy, i64 st, .slice A n cp] 31)).alloc (.cells #[i64 s, i64 a, .slice A' m c'] 57)) 57 #[i64 0, i64 0, .slice none 0 0]
    rw [hw0, World.size_alloc, World.size_alloc] at b0
    exact b0)
  have hg6 : w.heap.size + 1 + 1 < w0.heap.size := O0.out.lt
  obtain ⟨R, hR⟩ : ∃ R, fwR sy st rs s a xs b = R := ⟨_, rfl⟩
  rw [hR]
  obtain ⟨u1, hu1⟩ : ∃ u, machB sy st rs = u := ⟨_, rfl⟩
  obtain ⟨u2, hu2⟩ : ∃ u, partB sy st s a xs = u := ⟨_, rfl⟩
  obtain ⟨u3, hu3⟩ : ∃ u, inB b 1 20000 = u := ⟨_, rfl⟩
  have HR := Lib.hid (show R = if !(u1 && u2) then ((0, 0, []), 0, 0, 1) else if !u3 then ((0, 0, []), 0, 0, 2) else ((fwGo rs sy b.toNat 0 s a.toNat xs).1, (fwGo rs sy b.toNat 0 s a.toNat xs).2.1, (fwGo rs sy b.toNat 0 s a.toNat xs).2.2, 0) by rw [← hR, fwR, vpartB, hu1, hu2, hu3])
  have HU1 := Lib.hid hu1; have HU2 := Lib.hid hu2; have HU3 := Lib.hid hu3
  clear h h' hR hu2 hu3
  go_enter Try.func36, Try.ntmps36
  go_wp2_with fail
  refine (l05Is_c w.heap.size sy st A n cp rs u1 _ (by exact M0.out) hn hu1).mono ?_
  rintro e w1 ⟨rfl, hb⟩
  have M1 := Lib.hid (M0.out.below hb); have P1 := Lib.hid (P0.out.below hb); have O1 := Lib.hid (O0.out.keep hb); have B1 := Lib.hid hb
  clear hb hu1 hw0
  have o0 := O1.out.cell 0; have o1 := O1.out.cell 1; have o2 := O1.out.cell 2; have f0 := O1.out.frozen 0; have f1 := O1.out.frozen 1; have f2 := O1.out.frozen 2
  simp at o0 o1 o2
  cases u1
  · go_wp2_with fail
    refine bodyPost_ret (v := .tuple #[.agg #[i64 0, i64 0, .slice none 0 0], i64 0, i64 0, i64 1]) (by simp [results, Try.results36, go_sem, o0, o1, o2]) rfl ?_
    rw [HR.out]
    exact FwOut.bad _ ((by have hzz := (below_chain B0.out B0.out.size B1.out).size; repeat' (first | (with_reducible exact below_chain B0.out B0.out.size B1.out) | (with_reducible refine Below.alloc ?_ ?_ _) | (with_reducible refine Below.setCell ?_ ?_ _) | (with_reducible refine below_drew ?_) | omega | (simp; done) | (simp; omega))))
  have hbd := machB_bd HU1.out
  go_wp2_with fail
  refine (l26Good_c _ sy st A n cp rs _ s a A' m c' xs u2 _ (by exact M1.out) (by exact P1.out) hbd.1 hbd.2.1 hn' HU2.out).mono ?_
  rintro e w1' ⟨rfl, ⟨kq, rfl⟩⟩
  obtain ⟨w2, hw2⟩ : ∃ w2, w1.drewN kq = w2 := ⟨_, rfl⟩
  rw [hw2]
  have ed : Below w1.heap.size w1 w2 := by rw [← hw2]; exact below_drewN below_size kq
  have M2 := Lib.hid (M1.out.below ed); have P2 := Lib.hid (P1.out.below ed); have O2 := Lib.hid (O1.out.keep ed); have B2 := Lib.hid (below_chain B1.out B1.out.size ed)
  clear ed hw2 hbd o0 o1 o2 f0 f1 f2
  have o0 := O2.out.cell 0; have o1 := O2.out.cell 1; have o2 := O2.out.cell 2; have f0 := O2.out.frozen 0; have f1 := O2.out.frozen 1; have f2 := O2.out.frozen 2
  simp at o0 o1 o2
  cases u2
  · go_wp2_with fail
    refine bodyPost_ret (v := .tuple #[.agg #[i64 0, i64 0, .slice none 0 0], i64 0, i64 0, i64 1]) (by simp [results, Try.results36, go_sem, o0, o1, o2]) rfl ?_
    rw [HR.out]
    exact FwOut.bad _ ((by have hzz := (below_chain B0.out B0.out.size B2.out).size; repeat' (first | (with_reducible exact below_chain B0.out B0.out.size B2.out) | (with_reducible refine Below.alloc ?_ ?_ _) | (with_reducible refine Below.setCell ?_ ?_ _) | (with_reducible refine below_drew ?_) | omega | (simp; done) | (simp; omega))))
  go_wp2_with fail
  refine (l05Budget_c b _).mono ?_
  rw [HU3.out]
  rintro e w' ⟨rfl, rfl⟩
  cases u3
  · go_wp2_with fail
    refine bodyPost_ret (v := .tuple #[.agg #[i64 0, i64 0, .slice none 0 0], i64 0, i64 0, i64 2]) (by simp [results, Try.results36, go_sem, o0, o1, o2]) rfl ?_
    rw [HR.out]
    exact FwOut.bad _ ((by have hzz := (below_chain B0.out B0.out.size B2.out).size; repeat' (first | (with_reducible exact below_chain B0.out B0.out.size B2.out) | (with_reducible refine Below.alloc ?_ ?_ _) | (with_reducible refine Below.setCell ?_ ?_ _) | (with_reducible refine below_drew ?_) | omega | (simp; done) | (simp; omega))))
  obtain ⟨hs, hm60, ha, hxs⟩ := partB_parts HU2.out HLx.out
  have hb0 := inB_t HU3.out
  obtain ⟨bn, rfl⟩ := Int.eq_ofNat_of_zero_le (show 0 ≤ b by omega)
  obtain ⟨an, rfl⟩ := Int.eq_ofNat_of_zero_le ha.1
  have HXS := Lib.hid hxs
  have ham : an < m := by omega
  have HE := Lib.hid (show R = fwT (fwGo rs sy bn 0 s an xs) by rw [HR.out]; simp [fwT])
  clear hxs HR o0 o1 o2 f0 f1 f2
  have hw02 : w0.heap.size ≤ w2.heap.size := B2.out.size
  have p0 := P2.out.c0; have p1 := P2.out.c1; have p2 := P2.out.c2
  go_wp2_with fail
  go_cut [10] (fun v wx => FwCut 57 s (an : Int) m xs w2 v wx)
  case first =>
    have x0 := Ext.cell p0; have x1 := Ext.cell p1; have x2 := Ext.cell p2
    refine Mix.wp_region_mixF 8 [0, 3, 0, 3, 0, 3, 1, 1, 1, 2] (fun w' => ∃ x : Ext w2, w' = x.w) (by kernel_rfl) (by kernel_rfl) (InExt.drew _) _ _ (by rfl) ?_
    simp only [List.take_succ_cons, List.take_zero, List.drop_succ_cons, List.drop_zero]
    refine Mix.wpF_0 ?_
    (refine Mix.wpMix_pure (by rfl) ?_; go_big_quiet_step (fail); refine wpQuiet_nil ?_)
    refine Mix.wpMix_nil ?_
    refine Mix.wpF_3 ?_
    (refine Mix.wpMix_read (by rfl) ?_; go_big_quiet_step (fail); refine wpQuiet_nil ?_)
    refine Mix.wpMix_nil ?_
    refine Mix.wpF_0 ?_
    (refine Mix.wpMix_pure (by rfl) ?_; go_big_quiet_step (fail); refine wpQuiet_nil ?_)
    refine Mix.wpMix_nil ?_
    refine Mix.wpF_3 ?_
    (refine Mix.wpMix_read (by rfl) ?_; go_big_quiet_step (fail); refine wpQuiet_nil ?_)
    refine Mix.wpMix_nil ?_
    refine Mix.wpF_0 ?_
    (refine Mix.wpMix_pure (by rfl) ?_; go_big_quiet_step (fail); refine wpQuiet_nil ?_)
    refine Mix.wpMix_nil ?_
    refine Mix.wpF_3 ?_
    (refine Mix.wpMix_read (by rfl) ?_; go_big_quiet_step (fail); refine wpQuiet_nil ?_)
    refine Mix.wpMix_nil ?_
    refine Mix.wpF_1 ?_ ?_
    · simp only [List.cons_append, List.nil_append]
      refine Mix.wpMix_chg (by rfl) (fun K hK => ?_)
      go_wp2_with fail
      refine hK _ _ ⟨⟨_, below_drew (below_size.alloc (Nat.le_refl _) _)⟩, rfl⟩ ?_
      clear hK K
      obtain ⟨wa, hwa⟩ : ∃ wa, (w2.alloc (.cells #[i64 0, i64 0, .slice none 0 0] 57)).drew = wa := ⟨_, rfl⟩
      rw [hwa]
      have EA : Below w2.heap.size w2 wa := by rw [← hwa]; exact below_drew (below_size.alloc (Nat.le_refl _) _)
      have ZA := Lib.hid (show Blk wa w2.heap.size 57 #[i64 0, i64 0, .slice none 0 0] by rw [← hwa]; exact (Blk.new w2 _ _).drew)
      have hza : w2.heap.size < wa.heap.size := ZA.out.lt
      clear hwa
      refine Mix.wpMix_chg (by rfl) (fun K hK => ?_)
      go_wp2_with fail
      refine (l00Own_c A' m c' xs _ (by exact P2.out.rd.below EA) (by omega) (by omega)).mono ?_
      rintro e wb ⟨ao, cap, rfl, hw, hb⟩
      have em := below_chain EA EA.size hb
      have ZB := Lib.hid (ZA.out.keep hb)
      have hao : wa.heap.size ≤ ao.block := by obtain ⟨a1, v1, e1, h1, _⟩ := hw.at_ (k := 0) (by omega); injection e1 with e1; subst e1; exact h1
      have WB := Lib.hid hw.own
      have EB := Lib.hid em
      clear hw hb EA
      have z0 := ZB.out.cell 0; have z1 := ZB.out.cell 1; have z2 := ZB.out.cell 2; have g0 := ZB.out.frozen 0; have g1 := ZB.out.frozen 1; have g2 := ZB.out.frozen 2
      simp at z0 z1 z2
      go_wp2_with fail
      refine hK _ _ ⟨⟨_, em⟩, rfl⟩ ?_
      clear hK K
      refine Mix.wpMix_chg (by rfl) (fun K hK => ?_)
      go_wp2_with fail
      refine hK _ _ ⟨⟨_, em⟩, rfl⟩ ?_
      clear hK K
      refine Mix.wpMix_tail (by rfl) (fun K hK => ?_)
      go_wp2_with fail
      refine hK _ _ ?_
      clear hK K
      (refine Mix.wpMix_nil ?_; try simp only [Exit.then])
      go_wp2_with fail
      go_meet
      exact fwCut (fwBox ZB.out _ _ _) WB.out (by omega) (by omega) (by omega) EB.out (by omega)
    · skip
      refine Mix.wpMix_chg (by rfl) (fun K hK => ?_)
      go_wp2_with fail
      refine (l00Own_c A' m c' xs _ (by exact P2.out.rd.drew) (by omega) (by omega)).mono ?_
      rintro e wb ⟨ao, cap, rfl, hw, hb⟩
      have em := below_of_drew hb
      have hao : w2.heap.size ≤ ao.block ∧ ao.block < wb.heap.size := by obtain ⟨a1, v1, e1, h1, _, h3, _⟩ := hw.at_ (k := 0) (by omega); injection e1 with e1; subst e1; exact ⟨h1, h3⟩
      have WB := Lib.hid hw.own
      have EB := Lib.hid em
      have hzb := em.size
      clear hw hb
      go_wp2_with fail
      refine hK _ _ ⟨⟨_, em⟩, rfl⟩ ?_
      clear hK K
      refine Mix.wpMix_nil ?_
      refine Mix.wpF_1 ?_ ?_
      · simp only [List.nil_append]
        refine Mix.wpMix_chg (by rfl) (fun K hK => ?_)
        go_wp2_with fail
        refine hK _ _ ⟨⟨_, em.alloc hzb _⟩, rfl⟩ ?_
        clear hK K
        obtain ⟨wa, hwa⟩ : ∃ wa, wb.alloc (.cells #[i64 0, i64 0, .slice none 0 0] 57) = wa := ⟨_, rfl⟩
        rw [hwa]
        have ea : Below wb.heap.size wb wa := by rw [← hwa]; exact below_size.alloc (Nat.le_refl _) _
        have ZA := Lib.hid (show Blk wa wb.heap.size 57 #[i64 0, i64 0, .slice none 0 0] by rw [← hwa]; exact Blk.new wb _ _)
        have em2 := below_chain EB.out hzb ea
        have WA := Lib.hid (WB.out.below ea)
        have EA := Lib.hid em2
        have z0 := ZA.out.cell 0; have z1 := ZA.out.cell 1; have z2 := ZA.out.cell 2; have g0 := ZA.out.frozen 0; have g1 := ZA.out.frozen 1; have g2 := ZA.out.frozen 2
        simp at z0 z1 z2
        clear hwa ea
        refine Mix.wpMix_chg (by rfl) (fun K hK => ?_)
        go_wp2_with fail
        refine hK _ _ ⟨⟨_, em2⟩, rfl⟩ ?_
        clear hK K
        refine Mix.wpMix_tail (by rfl) (fun K hK => ?_)
        go_wp2_with fail
        refine hK _ _ ?_
        clear hK K
        (refine Mix.wpMix_nil ?_; try simp only [Exit.then])
        go_wp2_with fail
        go_meet
        exact fwCut (fwBox ZA.out _ _ _) WA.out (by omega) (by omega) (by omega) EA.out (by omega)
      · skip
        refine Mix.wpMix_chg (by rfl) (fun K hK => ?_)
        go_wp2_with fail
        refine hK _ _ ⟨⟨_, em⟩, rfl⟩ ?_
        clear hK K
        refine Mix.wpMix_nil ?_
        refine Mix.wpF_nil ?_
        refine Mix.wpMix_chg (by rfl) (fun K hK => ?_)
        go_wp2_with fail
        refine hK _ _ ⟨⟨_, em.alloc hzb _⟩, rfl⟩ ?_
        clear hK K
        obtain ⟨wa, hwa⟩ : ∃ wa, wb.alloc (.cells #[i64 0, i64 0, .slice none 0 0] 57) = wa := ⟨_, rfl⟩
        rw [hwa]
        have ea : Below wb.heap.size wb wa := by rw [← hwa]; exact below_size.alloc (Nat.le_refl _) _
        have ZA := Lib.hid (show Blk wa wb.heap.size 57 #[i64 0, i64 0, .slice none 0 0] by rw [← hwa]; exact Blk.new wb _ _)
        have em2 := below_chain EB.out hzb ea
        have WA := Lib.hid (WB.out.below ea)
        have EA := Lib.hid em2
        have z0 := ZA.out.cell 0; have z1 := ZA.out.cell 1; have z2 := ZA.out.cell 2; have g0 := ZA.out.frozen 0; have g1 := ZA.out.frozen 1; have g2 := ZA.out.frozen 2
        simp at z0 z1 z2
        clear hwa ea
        refine Mix.wpMix_tail (by rfl) (fun K hK => ?_)
        go_wp2_with fail
        refine hK _ _ ?_
        clear hK K
        (refine Mix.wpMix_nil ?_; try simp only [Exit.then])
        go_wp2_with fail
        go_meet
        exact fwCut (fwBox ZA.out _ _ _) WA.out (by omega) (by omega) (by omega) EA.out (by omega)
  case rest =>
    obtain ⟨g, ao, cap, rfl, hNB, hWC, hne, hgw, haw, hEC⟩ := hcut
    have NB := Lib.hid hNB; have WC := Lib.hid hWC; have EC := Lib.hid (B2.out.trans (hEC.mono hw02))
    have hg0 : w0.heap.size ≤ g := by omega
    have ha0 : w0.heap.size ≤ ao.block := by omega
    clear hNB hWC hEC p0 p1 p2 hgw haw
    go_wp2_with fail
    go_loopw [11] (fun nv wr => ∃ (nn f k : Nat) (q : Int) (out : List Int), nv = .int .i64 nn ∧ nn ≤ bn ∧ Hid (f + nn = bn) ∧ k < m ∧ (0 ≤ q ∧ q ≤ st - 1) ∧ Hid (out.length = m) ∧ Hid (∀ x ∈ out, 0 ≤ x ∧ x ≤ sy - 1) ∧ Hid (R = fwT (fwGo rs sy f nn q k out)) ∧ Hid (Blk wr g 57 #[i64 q, i64 (k : Int), .slice (some ao) m cap]) ∧ Hid (Wr wr ao.block (ao.block + 1) (some ao) m (out.map i64)) ∧ Hid (Below w0.heap.size w0 wr)) (fun nv _ => bn - (intOf nv).toNat)
    case atStart => exact ⟨0, bn, an, s, xs, rfl, by omega, by unfold Hid; omega, ham, hs, HLx.out, HXS.out, HE.out, NB.out, WC.out, EC.out⟩
    case round =>
      clear NB WC EC
      obtain ⟨nn, f, k, q, out, rfl, hnn, hfn, hk, hq, hol, hoi, hr, hN, hW, hB⟩ := hrel
      obtain ⟨ao', cc, eo, hab, hy, hcy⟩ := hW.out.rdI.at_ hk
      injection eo with eo; subst eo
      have hcr := hoi.out cc (List.mem_of_getElem? hy)
      obtain ⟨j, x, hj, hm0, hm1, hx, hxr, hxc⟩ := rule_find HU1.out hq hcr
      have hP := M0.out.below hB.out
      have hjn : j < n := by have h1 := (List.getElem?_eq_some_iff.1 hx).1; have h2 := HLr.out; omega
      obtain ⟨ad, x2, rfl, _, hx2, hc0, hc1, hc2⟩ := hP.rd.at_ hjn
      have hx3 : x2 = x := by rw [hx] at hx2; injection hx2 with hx2; exact hx2.symm
      subst hx3
      obtain ⟨p, mv, nx⟩ := x2
      have hm3 := machB_bd HU1.out
      have v1 : IntKind.i64.wrap (q * sy) = q * sy := IntWalk.i64_in _ (by omega)
      have v2 : IntKind.i64.wrap (q * sy + cc) = (j : Int) := (IntWalk.i64_in _ (by omega)).trans hj
      have n0 := hN.out.cell 0; have n1 := hN.out.cell 1; have n2 := hN.out.cell 2
      simp at n0 n1 n2
      have hgw := hN.out.lt
      have h0' := hP.c0; have h2' := hP.c2
      have y0 := Ext.cell h0'; have y2 := Ext.cell h2'; have yc := Ext.cell hcy
      have z0 := Ext.cell hc0; have z1 := Ext.cell hc1; have z2 := Ext.cell hc2
      have t0 := Ext.cell n0; have t1 := Ext.cell n1; have t2 := Ext.cell n2
      have HY := Lib.hid hy; have HXR := Lib.hid hxr; have HXC := Lib.hid hxc
      clear hy hxr hxc hx hx2 hj hP h0' h2' hc0 hc1 hc2 hcy n0 n1 n2 hm3
      go_wp2_with fail
      refine Mix.wp_region_mix [0, 3, 0, 3, 0, 3, 0, 0, 3, 0, 3, 0, 3, 0, 0, 3, 1, 2] (fun w' => ∃ x : Ext wr, w' = x.w) (by kernel_rfl) (by kernel_rfl) (InExt.drew _) ?_
      repeat (first | (refine Mix.wpMix_read (by rfl) ?_; go_big_quiet_step (fail); refine wpQuiet_nil ?_) | (refine Mix.wpMix_pure (by rfl) ?_; go_big_quiet_step (fail); refine wpQuiet_nil ?_))
      refine Mix.wpMix_chg (by rfl) (fun K hK => ?_)
      go_wp2_with fail
      refine hK _ _ ⟨⟨_, below_drew (below_size.alloc (Nat.le_refl _) _)⟩, rfl⟩ ?_
      clear hK K
      repeat (first | (refine Mix.wpMix_read (by rfl) ?_; go_big_quiet_step (fail); refine wpQuiet_nil ?_) | (refine Mix.wpMix_pure (by rfl) ?_; go_big_quiet_step (fail); refine wpQuiet_nil ?_))
      refine Mix.wpMix_tail (by rfl) (fun K hK => ?_)
      go_wp2_with fail
      refine hK _ _ ?_
      clear hK K
      (refine Mix.wpMix_nil ?_; try simp only [Exit.then])
      clear y0 y2 yc z0 z1 z2 v1 v2 t0 t1 t2
      go_wp2_with fail
      obtain ⟨wn, hwn⟩ : ∃ wn, (wr.alloc (.cells #[i64 p, i64 mv, i64 nx] 127)).drew = wn := ⟨_, rfl⟩
      rw [hwn]
      have XB := Lib.hid (show Blk wn wr.heap.size 127 #[i64 p, i64 mv, i64 nx] by rw [← hwn]; exact (Blk.new wr _ _).drew)
      have EB := Lib.hid (show Below wr.heap.size wr wn by rw [← hwn]; exact below_drew (below_size.alloc (Nat.le_refl _) _))
      have hz0 := hB.out.size
      have BN := Lib.hid (hB.out.trans (EB.out.mono hz0))
      clear hwn
      have b0 := XB.out.cell 0; have b1 := XB.out.cell 1; have b2 := XB.out.cell 2
      simp at b0 b1 b2
      have x0 := Ext.cell b0; have x1 := Ext.cell b1; have x2 := Ext.cell b2
      rcases rule_cases p mv nx with ⟨hnon, hp0, hp1, hp2⟩ | ⟨hnon, hne'⟩
      · have HF := Lib.hid (show R = ((q, (k : Int), out), (nn : Int), 0, 0) by rw [hr.out, fwGo_none HY.out (HXR.out.trans hnon)]; rfl)
        subst hp0; subst hp1; subst hp2
        clear hr hnon b0 b1 b2
        refine Mix.wp_region_mix [3, 1, 0] (fun w' => ∃ x : Ext wn, w' = x.w) (by kernel_rfl) (by kernel_rfl) (InExt.drew _) ?_
        repeat (first | (refine Mix.wpMix_read (by rfl) ?_; go_big_quiet_step (fail); refine wpQuiet_nil ?_) | (refine Mix.wpMix_pure (by rfl) ?_; go_big_quiet_step (fail); refine wpQuiet_nil ?_))
        refine Mix.wpMix_chg (by rfl) (fun K hK => ?_)
        go_wp2_with fail
        refine (l05None_c _).mono ?_
        rintro e w3 ⟨rfl, hb⟩
        have em := below_of_drew hb
        go_wp2_with fail
        refine hK _ _ ⟨⟨_, em⟩, rfl⟩ ?_
        clear hK K
        repeat (first | (refine Mix.wpMix_read (by rfl) ?_; go_big_quiet_step (fail); refine wpQuiet_nil ?_) | (refine Mix.wpMix_pure (by rfl) ?_; go_big_quiet_step (fail); refine wpQuiet_nil ?_))
        (refine Mix.wpMix_nil ?_; try simp only [Exit.then])
        clear x0 x1 x2
        have N3 := Lib.hid ((hN.out.keep EB.out).keep em); have W3 := Lib.hid ((hW.out.below EB.out).below em); have B3 := Lib.hid (below_chain BN.out BN.out.size em)
        have O3 := Lib.hid (O0.out.below B3.out hg6)
        have n0 := N3.out.cell 0; have n1 := N3.out.cell 1; have n2 := N3.out.cell 2; have o0 := O3.out.cell 0; have o1 := O3.out.cell 1; have o2 := O3.out.cell 2; have f0 := O3.out.frozen 0; have f1 := O3.out.frozen 1; have f2 := O3.out.frozen 2
        simp at n0 n1 n2 o0 o1 o2
        clear em
        go_wp2_with fail
        refine bodyPost_ret (v := .tuple #[.agg #[i64 q, i64 (k : Int), .slice (some ao) m cap], i64 (nn : Int), i64 0, i64 0]) (by simp [results, Try.results36, go_sem, o0, o1, o2]) rfl ?_
        exact FwOut.fin HF.out B0.out B3.out hg6 (by omega) ha0 W3.out (by omega) (by omega)
      have hne2 := rule_ne p mv nx hne'
      clear hne' b0 b1 b2
      refine Mix.wp_region_mix [3, 1, 0] (fun w' => ∃ x : Ext wn, w' = x.w) (by kernel_rfl) (by kernel_rfl) (InExt.drew _) ?_
      repeat (first | (refine Mix.wpMix_read (by rfl) ?_; go_big_quiet_step (fail); refine wpQuiet_nil ?_) | (refine Mix.wpMix_pure (by rfl) ?_; go_big_quiet_step (fail); refine wpQuiet_nil ?_))
      refine Mix.wpMix_chg (by rfl) (fun K hK => ?_)
      go_wp2_with fail
      refine (l05None_c _).mono ?_
      rintro e w3 ⟨rfl, hb⟩
      have em := below_of_drew hb
      go_wp2_with fail
      refine hK _ _ ⟨⟨_, em⟩, rfl⟩ ?_
      clear hK K
      repeat (first | (refine Mix.wpMix_read (by rfl) ?_; go_big_quiet_step (fail); refine wpQuiet_nil ?_) | (refine Mix.wpMix_pure (by rfl) ?_; go_big_quiet_step (fail); refine wpQuiet_nil ?_))
      (refine Mix.wpMix_nil ?_; try simp only [Exit.then])
      clear hne2 x0 x1 x2
      obtain ⟨hpr, hmv, hnx⟩ := HXC.out.resolve_left hnon |>.2
      have N3 := Lib.hid ((hN.out.keep EB.out).keep em); have W3 := Lib.hid ((hW.out.below EB.out).below em); have B3 := Lib.hid (below_chain BN.out BN.out.size em); have X3 := Lib.hid (XB.out.keep em)
      have O3 := Lib.hid (O0.out.below B3.out hg6)
      have n0 := N3.out.cell 0; have n1 := N3.out.cell 1; have n2 := N3.out.cell 2
      simp at n0 n1 n2
      have HN := Lib.hid hnon
      clear em hnon
      by_cases hst' : nn = bn
      · have HF := Lib.hid (show R = ((q, (k : Int), out), (nn : Int), 3, 0) by rw [hr.out, show f = 0 by have := hfn.out; omega, fwGo_stop HY.out HXR.out HN.out]; rfl)
        have e0 : ((nn : Int) == (bn : Int)) = true := by simp [hst']
        have o0 := O3.out.cell 0; have o1 := O3.out.cell 1; have o2 := O3.out.cell 2; have f0 := O3.out.frozen 0; have f1 := O3.out.frozen 1; have f2 := O3.out.frozen 2
        simp at o0 o1 o2
        clear hst' hr
        go_wp2_with fail
        refine bodyPost_ret (v := .tuple #[.agg #[i64 q, i64 (k : Int), .slice (some ao) m cap], i64 (nn : Int), i64 3, i64 0]) (by simp [results, Try.results36, go_sem, o0, o1, o2]) rfl ?_
        exact FwOut.fin HF.out B0.out B3.out hg6 (by omega) ha0 W3.out (by omega) (by omega)
      have e0 : ((nn : Int) == (bn : Int)) = false := by simp; omega
      have hlt : nn < bn := by omega
      obtain ⟨f', hf'⟩ : ∃ f', f = f' + 1 := ⟨f - 1, by have := hfn.out; omega⟩
      subst hf'
      have c0 := X3.out.cell 0
      simp at c0
      obtain ⟨ao2, cc2, eo2, _, _, hcy2⟩ := W3.out.rdI.at_ hk
      injection eo2 with eo2; subst eo2
      have hf2 : w3.frozen? (ao.add k) = false := by
        obtain ⟨a', v, e, _, _, _, _, _, hf⟩ := W3.out.at_ hk
        injection e with e; subst e; exact hf
      have hao3 : ao.block < wr.heap.size := hab
      -- the cells behind the two stores
      have N4 := N3.out.far (p := ao.add k) (by rw [block_add]; exact fun e => hne e.symm) (i64 p)
      have X4 := X3.out.far (p := ao.add k) (by rw [block_add]; omega) (i64 p)
      have O4 := O3.out.far (p := ao.add k) (by rw [block_add]; omega) (i64 p)
      have W4 := W3.out.set hk (i64 p)
      have B4 := B3.out.setCell (p := ao.add k) (by rw [block_add]; exact ha0) (i64 p)
      have N5 := N4.set_ 0 (i64 nx)
      have X5 := X4.far (p := ⟨g, 0, none⟩) (by show wr.heap.size ≠ g; omega) (i64 nx)
      have O5 := O4.far (p := ⟨g, 0, none⟩) (by show _ ≠ g; omega) (i64 nx)
      have W5 := W4.set_far (p := ⟨g, 0, none⟩) (by show g < _ ∨ _ ≤ g; omega) (i64 nx)
      have B5 := B4.setCell (p := ⟨g, 0, none⟩) (by exact hg0) (i64 nx)
      simp at N5
      rw [← List.map_set] at W5
      have d2 := X4.cell 2; have d0 := N4.cell 0; have df := N4.frozen 0
      have d1 := X5.cell 1; have e1 := N5.cell 1; have e2 := N5.cell 2; have e3 := N5.cell 0
      simp at d2 d0 d1 e1 e2 e3
      have N6 := Lib.hid N5; have W6 := Lib.hid W5; have B6 := Lib.hid B5; have O6 := Lib.hid O5
      have HSI := Lib.hid (set_in (k := k) hoi.out hpr)
      have HSL := Lib.hid (show (out.set k p).length = m by rw [List.length_set]; exact hol.out)
      clear N4 X4 O4 W4 B4 N5 X5 O5 W5 B5 X3 hst'
      by_cases hl : (k : Int) + mv < 0
      · have HF := Lib.hid (show R = ((nx, (k : Int), out.set k p), ((nn + 1 : Nat) : Int), 1, 0) by rw [hr.out, fwGo_left HY.out HXR.out HN.out hl]; rfl)
        have va : IntKind.i64.wrap ((k : Int) + mv) = (k : Int) + mv := IntWalk.i64_in _ (by omega)
        have vb : decide ((k : Int) + mv < 0) = true := decide_eq_true hl
        have o0 := O6.out.cell 0; have o1 := O6.out.cell 1; have o2 := O6.out.cell 2; have f0 := O6.out.frozen 0; have f1 := O6.out.frozen 1; have f2 := O6.out.frozen 2
        simp at o0 o1 o2
        clear hl hr hmv
        go_wp2_with fail
        refine bodyPost_ret (v := .tuple #[.agg #[i64 nx, i64 (k : Int), .slice (some ao) m cap], i64 ((nn : Int) + 1), i64 1, i64 0]) (by simp [results, Try.results36, go_sem, o0, o1, o2]) rfl ?_
        exact FwOut.fin (by rw [HF.out]; rfl) B0.out B6.out hg6 (by omega) ha0 W6.out (by omega) (by omega)
      by_cases hl2 : (k : Int) + mv = m
      · have HF := Lib.hid (show R = ((nx, (k : Int), out.set k p), ((nn + 1 : Nat) : Int), 2, 0) by rw [hr.out, fwGo_right HY.out HXR.out HN.out (by rw [hol.out]; exact hl2)]; rfl)
        have va : IntKind.i64.wrap ((k : Int) + mv) = (m : Int) := (IntWalk.i64_in _ (by omega)).trans hl2
        have vb : ((m : Int) == (m : Int)) = true := by simp
        have o0 := O6.out.cell 0; have o1 := O6.out.cell 1; have o2 := O6.out.cell 2; have f0 := O6.out.frozen 0; have f1 := O6.out.frozen 1; have f2 := O6.out.frozen 2
        simp at o0 o1 o2
        clear hl hl2 hr hmv
        go_wp2_with fail
        refine bodyPost_ret (v := .tuple #[.agg #[i64 nx, i64 (k : Int), .slice (some ao) m cap], i64 ((nn : Int) + 1), i64 2, i64 0]) (by simp [results, Try.results36, go_sem, o0, o1, o2]) rfl ?_
        exact FwOut.fin (by rw [HF.out]; rfl) B0.out B6.out hg6 (by omega) ha0 W6.out (by omega) (by omega)
      obtain ⟨k', hk'⟩ := Int.eq_ofNat_of_zero_le (show 0 ≤ (k : Int) + mv by omega)
      have hkm : k' < m := by omega
      have HF := Lib.hid (show R = fwT (fwGo rs sy f' (nn + 1) nx k' (out.set k p)) by rw [hr.out, fwGo_on HY.out HXR.out HN.out (by rw [hol.out]; exact hl2) hk'])
      have va : IntKind.i64.wrap ((k : Int) + mv) = (k' : Int) := (IntWalk.i64_in _ (by omega)).trans hk'
      have vb : ((k' : Int) == (m : Int)) = false := by simp; omega
      have nf1 := N6.out.frozen 1
      clear hl hl2 hr hmv hk'
      go_wp2_with fail
      go_roundw
      case rel =>
        refine ⟨nn + 1, f', k', nx, out.set k p, by go_num, by omega, by have := hfn.out; unfold Hid; omega, hkm, hnx, HSL.out, HSI.out, HF.out, ?_, ?_, ?_⟩
        · have := N6.out.set_ 1 (i64 (k' : Int)); unfold Hid; simpa using this
        · exact W6.out.set_far (p := ⟨g, 1, none⟩) (by show g < _ ∨ _ ≤ g; omega) _
        · exact B6.out.setCell (p := ⟨g, 1, none⟩) (by exact hg0) _
      case measure => simp [intOf] <;> omega
set_option maxHeartbeats 4000000 in
set_option maxRecDepth 100000 in
theorem iForwardPartial_c (sy st : Int) (A : Option Addr) (n cp : Nat) (rs : List Rule3) (s a : Int) (A' : Option Addr) (m c' : Nat) (xs : List Int) (b : Int) (w : World) (h : RdS w [sgX enc3 3 A n rs]) (h' : RdS w [sgI A' m xs]) (hn : n ≤ 1000000000) (hn' : m ≤ 1000000000) :
    Calls Try.prog 38 #[.agg #[.int .i64 sy, .int .i64 st, .slice A n cp], .agg #[.int .i64 s, .int .i64 a, .slice A' m c'], .int .i64 b] w (FwOut (fwR sy st rs s a xs b) w) := by
  replace h : Rd3 w A n rs := h.head
  replace h' : RdI w A' m xs := h'.head
  have HLr := Lib.hid h.len; have HLx := Lib.hid h'.len
  obtain ⟨w0, hw0⟩ : ∃ w0, ((w.alloc (.cells #[i64 sy, i64 st, .slice A n cp] 31)).alloc (.cells #[i64 s, i64 a, .slice A' m c'] 57)).alloc (.cells #[i64 0, i64 0, .slice none 0 0] 57) = w0 := ⟨_, rfl⟩
  have B0 := Lib.hid (show Below w.heap.size w w0 by rw [← hw0]; exact ((below_size.alloc (Nat.le_refl _) _).alloc (by simp) _).alloc (by simp; omega) _)
  have M0 := Lib.hid (show MachP w0 w.heap.size sy st A n cp rs by
    have b0 := ((Blk.new w 31 #[i64 sy, i64 st, .slice A n cp]).alloc (.cells #[i64 s, i64 a, .slice A' m c'] 57)).alloc (.cells #[i64 0, i64 0, .slice none 0 0] 57)
    rw [hw0] at b0
    exact ⟨b0.cell 0, b0.cell 1, b0.cell 2, h.below B0.out⟩)
  have P0 := Lib.hid (show PartP w0 (w.heap.size + 1) s a A' m c' xs by
    have b0 := (Blk.new (w.alloc (.cells #[i64 sy, i64 st, .slice A n cp] 31)) 57 #[i64 s, i64 a, .slice A' m c']).alloc (.cells #[i64 0, i64 0, .slice none 0 0] 57)
    rw [hw0, World.size_alloc] at b0
    exact ⟨b0.cell 0, b0.cell 1, b0.cell 2, h'.below B0.out⟩)
  have O0 := Lib.hid (show Blk w0 (w.heap.size + 1 + 1) 57 #[i64 0, i64 0, .slice none 0 0] by
    have b0 := Blk.new ((w.alloc (.cells #[i64 sy, i64 st, .slice A n cp] 31)).alloc (.cells #[i64 s, i64 a, .slice A' m c'] 57)) 57 #[i64 0, i64 0, .slice none 0 0]
    rw [hw0, World.size_alloc, World.size_alloc] at b0
    exact b0)
  have hg6 : w.heap.size + 1 + 1 < w0.heap.size := O0.out.lt
  obtain ⟨R, hR⟩ : ∃ R, fwR sy st rs s a xs b = R := ⟨_, rfl⟩
  rw [hR]
  obtain ⟨u, hu⟩ : ∃ u, vpartB sy st rs s a xs = u := ⟨_, rfl⟩
  obtain ⟨u3, hu3⟩ : ∃ u, inB b 1 20000 = u := ⟨_, rfl⟩
  have HR := Lib.hid (show R = if !u then ((0, 0, []), 0, 0, 1) else if !u3 then ((0, 0, []), 0, 0, 2) else ((fwGo rs sy b.toNat 0 s a.toNat xs).1, (fwGo rs sy b.toNat 0 s a.toNat xs).2.1, (fwGo rs sy b.toNat 0 s a.toNat xs).2.2, 0) by rw [← hR, fwR, hu, hu3])
  have HU := Lib.hid hu; have HU3 := Lib.hid hu3
  have q0 := M0.out.c0; have q1 := M0.out.c1; have q2 := M0.out.c2; have r0 := P0.out.c0; have r1 := P0.out.c1; have r2 := P0.out.c2
  clear h h' hR hu3
  go_enter Try.func38, Try.ntmps38
  go_wp2_with fail
  refine (iValidPartial_c sy st A n cp rs s a A' m c' xs _ (by exact RdS.one M0.out.rd) (by exact RdS.one P0.out.rd) hn hn').mono ?_
  rw [hu]
  rintro e w2 ⟨rfl, hb⟩
  have M2 := Lib.hid (M0.out.below hb); have P2 := Lib.hid (P0.out.below hb); have O2 := Lib.hid (O0.out.keep hb); have B2 := Lib.hid hb
  clear hb hu hw0 q0 q1 q2 r0 r1 r2
  have o0 := O2.out.cell 0; have o1 := O2.out.cell 1; have o2 := O2.out.cell 2; have f0 := O2.out.frozen 0; have f1 := O2.out.frozen 1; have f2 := O2.out.frozen 2
  simp at o0 o1 o2
  cases u
  · go_wp2_with fail
    refine bodyPost_ret (v := .tuple #[.agg #[i64 0, i64 0, .slice none 0 0], i64 0, i64 0, i64 1]) (by simp [results, Try.results38, go_sem, o0, o1, o2]) rfl ?_
    rw [HR.out]
    exact FwOut.bad _ ((by have hzz := (below_chain B0.out B0.out.size B2.out).size; repeat' (first | (with_reducible exact below_chain B0.out B0.out.size B2.out) | (with_reducible refine Below.alloc ?_ ?_ _) | (with_reducible refine Below.setCell ?_ ?_ _) | (with_reducible refine below_drew ?_) | omega | (simp; done) | (simp; omega))))
  have HU1 := Lib.hid (show machB sy st rs = true by have := HU.out; rw [vpartB, Bool.and_eq_true] at this; exact this.1)
  have HU2 := Lib.hid (show partB sy st s a xs = true by have := HU.out; rw [vpartB, Bool.and_eq_true] at this; exact this.2)
  go_wp2_with fail
  refine (budgetOk_c b _).mono ?_
  rw [HU3.out]
  rintro e w' ⟨rfl, rfl⟩
  cases u3
  · go_wp2_with fail
    refine bodyPost_ret (v := .tuple #[.agg #[i64 0, i64 0, .slice none 0 0], i64 0, i64 0, i64 2]) (by simp [results, Try.results38, go_sem, o0, o1, o2]) rfl ?_
    rw [HR.out]
    exact FwOut.bad _ ((by have hzz := (below_chain B0.out B0.out.size B2.out).size; repeat' (first | (with_reducible exact below_chain B0.out B0.out.size B2.out) | (with_reducible refine Below.alloc ?_ ?_ _) | (with_reducible refine Below.setCell ?_ ?_ _) | (with_reducible refine below_drew ?_) | omega | (simp; done) | (simp; omega))))
  obtain ⟨hs, hm60, ha, hxs⟩ := partB_parts HU2.out HLx.out
  have hb0 := inB_t HU3.out
  obtain ⟨bn, rfl⟩ := Int.eq_ofNat_of_zero_le (show 0 ≤ b by omega)
  obtain ⟨an, rfl⟩ := Int.eq_ofNat_of_zero_le ha.1
  have HXS := Lib.hid hxs
  have ham : an < m := by omega
  have HE := Lib.hid (show R = fwT (fwGo rs sy bn 0 s an xs) by rw [HR.out]; simp [fwT])
  clear hxs HR o0 o1 o2 f0 f1 f2
  have hw02 : w0.heap.size ≤ w2.heap.size := B2.out.size
  have p0 := P2.out.c0; have p1 := P2.out.c1; have p2 := P2.out.c2
  go_wp2_with fail
  go_cut [10] (fun v wx => FwCut 57 s (an : Int) m xs w2 v wx)
  case first =>
    have x0 := Ext.cell p0; have x1 := Ext.cell p1; have x2 := Ext.cell p2
    refine Mix.wp_region_mixF 8 [0, 3, 0, 3, 0, 3, 1, 1, 1, 2] (fun w' => ∃ x : Ext w2, w' = x.w) (by kernel_rfl) (by kernel_rfl) (InExt.drew _) _ _ (by rfl) ?_
    simp only [List.take_succ_cons, List.take_zero, List.drop_succ_cons, List.drop_zero]
    refine Mix.wpF_0 ?_
    (refine Mix.wpMix_pure (by rfl) ?_; go_big_quiet_step (fail); refine wpQuiet_nil ?_)
    refine Mix.wpMix_nil ?_
    refine Mix.wpF_3 ?_
    (refine Mix.wpMix_read (by rfl) ?_; go_big_quiet_step (fail); refine wpQuiet_nil ?_)
    refine Mix.wpMix_nil ?_
    refine Mix.wpF_0 ?_
    (refine Mix.wpMix_pure (by rfl) ?_; go_big_quiet_step (fail); refine wpQuiet_nil ?_)
    refine Mix.wpMix_nil ?_
    refine Mix.wpF_3 ?_
    (refine Mix.wpMix_read (by rfl) ?_; go_big_quiet_step (fail); refine wpQuiet_nil ?_)
    refine Mix.wpMix_nil ?_
    refine Mix.wpF_0 ?_
    (refine Mix.wpMix_pure (by rfl) ?_; go_big_quiet_step (fail); refine wpQuiet_nil ?_)
    refine Mix.wpMix_nil ?_
    refine Mix.wpF_3 ?_
    (refine Mix.wpMix_read (by rfl) ?_; go_big_quiet_step (fail); refine wpQuiet_nil ?_)
    refine Mix.wpMix_nil ?_
    refine Mix.wpF_1 ?_ ?_
    · simp only [List.cons_append, List.nil_append]
      refine Mix.wpMix_chg (by rfl) (fun K hK => ?_)
      go_wp2_with fail
      refine hK _ _ ⟨⟨_, below_drew (below_size.alloc (Nat.le_refl _) _)⟩, rfl⟩ ?_
      clear hK K
      obtain ⟨wa, hwa⟩ : ∃ wa, (w2.alloc (.cells #[i64 0, i64 0, .slice none 0 0] 57)).drew = wa := ⟨_, rfl⟩
      rw [hwa]
      have EA : Below w2.heap.size w2 wa := by rw [← hwa]; exact below_drew (below_size.alloc (Nat.le_refl _) _)
      have ZA := Lib.hid (show Blk wa w2.heap.size 57 #[i64 0, i64 0, .slice none 0 0] by rw [← hwa]; exact (Blk.new w2 _ _).drew)
      have hza : w2.heap.size < wa.heap.size := ZA.out.lt
      clear hwa
      refine Mix.wpMix_chg (by rfl) (fun K hK => ?_)
      go_wp2_with fail
      refine (cloneI_c A' m c' xs _ (by exact P2.out.rd.below EA) (by omega) (by omega)).mono ?_
      rintro e wb ⟨ao, cap, rfl, hw, hb⟩
      have em := below_chain EA EA.size hb
      have ZB := Lib.hid (ZA.out.keep hb)
      have hao : wa.heap.size ≤ ao.block := by obtain ⟨a1, v1, e1, h1, _⟩ := hw.at_ (k := 0) (by omega); injection e1 with e1; subst e1; exact h1
      have WB := Lib.hid hw.own
      have EB := Lib.hid em
      clear hw hb EA
      have z0 := ZB.out.cell 0; have z1 := ZB.out.cell 1; have z2 := ZB.out.cell 2; have g0 := ZB.out.frozen 0; have g1 := ZB.out.frozen 1; have g2 := ZB.out.frozen 2
      simp at z0 z1 z2
      go_wp2_with fail
      refine hK _ _ ⟨⟨_, em⟩, rfl⟩ ?_
      clear hK K
      refine Mix.wpMix_chg (by rfl) (fun K hK => ?_)
      go_wp2_with fail
      refine hK _ _ ⟨⟨_, em⟩, rfl⟩ ?_
      clear hK K
      refine Mix.wpMix_tail (by rfl) (fun K hK => ?_)
      go_wp2_with fail
      refine hK _ _ ?_
      clear hK K
      (refine Mix.wpMix_nil ?_; try simp only [Exit.then])
      go_wp2_with fail
      go_meet
      exact fwCut (fwBox ZB.out _ _ _) WB.out (by omega) (by omega) (by omega) EB.out (by omega)
    · skip
      refine Mix.wpMix_chg (by rfl) (fun K hK => ?_)
      go_wp2_with fail
      refine (cloneI_c A' m c' xs _ (by exact P2.out.rd.drew) (by omega) (by omega)).mono ?_
      rintro e wb ⟨ao, cap, rfl, hw, hb⟩
      have em := below_of_drew hb
      have hao : w2.heap.size ≤ ao.block ∧ ao.block < wb.heap.size := by obtain ⟨a1, v1, e1, h1, _, h3, _⟩ := hw.at_ (k := 0) (by omega); injection e1 with e1; subst e1; exact ⟨h1, h3⟩
      have WB := Lib.hid hw.own
      have EB := Lib.hid em
      have hzb := em.size
      clear hw hb
      go_wp2_with fail
      refine hK _ _ ⟨⟨_, em⟩, rfl⟩ ?_
      clear hK K
      refine Mix.wpMix_nil ?_
      refine Mix.wpF_1 ?_ ?_
      · simp only [List.nil_append]
        refine Mix.wpMix_chg (by rfl) (fun K hK => ?_)
        go_wp2_with fail
        refine hK _ _ ⟨⟨_, em.alloc hzb _⟩, rfl⟩ ?_
        clear hK K
        obtain ⟨wa, hwa⟩ : ∃ wa, wb.alloc (.cells #[i64 0, i64 0, .slice none 0 0] 57) = wa := ⟨_, rfl⟩
        rw [hwa]
        have ea : Below wb.heap.size wb wa := by rw [← hwa]; exact below_size.alloc (Nat.le_refl _) _
        have ZA := Lib.hid (show Blk wa wb.heap.size 57 #[i64 0, i64 0, .slice none 0 0] by rw [← hwa]; exact Blk.new wb _ _)
        have em2 := below_chain EB.out hzb ea
        have WA := Lib.hid (WB.out.below ea)
        have EA := Lib.hid em2
        have z0 := ZA.out.cell 0; have z1 := ZA.out.cell 1; have z2 := ZA.out.cell 2; have g0 := ZA.out.frozen 0; have g1 := ZA.out.frozen 1; have g2 := ZA.out.frozen 2
        simp at z0 z1 z2
        clear hwa ea
        refine Mix.wpMix_chg (by rfl) (fun K hK => ?_)
        go_wp2_with fail
        refine hK _ _ ⟨⟨_, em2⟩, rfl⟩ ?_
        clear hK K
        refine Mix.wpMix_tail (by rfl) (fun K hK => ?_)
        go_wp2_with fail
        refine hK _ _ ?_
        clear hK K
        (refine Mix.wpMix_nil ?_; try simp only [Exit.then])
        go_wp2_with fail
        go_meet
        exact fwCut (fwBox ZA.out _ _ _) WA.out (by omega) (by omega) (by omega) EA.out (by omega)
      · skip
        refine Mix.wpMix_chg (by rfl) (fun K hK => ?_)
        go_wp2_with fail
        refine hK _ _ ⟨⟨_, em⟩, rfl⟩ ?_
        clear hK K
        refine Mix.wpMix_nil ?_
        refine Mix.wpF_nil ?_
        refine Mix.wpMix_chg (by rfl) (fun K hK => ?_)
        go_wp2_with fail
        refine hK _ _ ⟨⟨_, em.alloc hzb _⟩, rfl⟩ ?_
        clear hK K
        obtain ⟨wa, hwa⟩ : ∃ wa, wb.alloc (.cells #[i64 0, i64 0, .slice none 0 0] 57) = wa := ⟨_, rfl⟩
        rw [hwa]
        have ea : Below wb.heap.size wb wa := by rw [← hwa]; exact below_size.alloc (Nat.le_refl _) _
        have ZA := Lib.hid (show Blk wa wb.heap.size 57 #[i64 0, i64 0, .slice none 0 0] by rw [← hwa]; exact Blk.new wb _ _)
        have em2 := below_chain EB.out hzb ea
        have WA := Lib.hid (WB.out.below ea)
        have EA := Lib.hid em2
        have z0 := ZA.out.cell 0; have z1 := ZA.out.cell 1; have z2 := ZA.out.cell 2; have g0 := ZA.out.frozen 0; have g1 := ZA.out.frozen 1; have g2 := ZA.out.frozen 2
        simp at z0 z1 z2
        clear hwa ea
        refine Mix.wpMix_tail (by rfl) (fun K hK => ?_)
        go_wp2_with fail
        refine hK _ _ ?_
        clear hK K
        (refine Mix.wpMix_nil ?_; try simp only [Exit.then])
        go_wp2_with fail
        go_meet
        exact fwCut (fwBox ZA.out _ _ _) WA.out (by omega) (by omega) (by omega) EA.out (by omega)
  case rest =>
    obtain ⟨g, ao, cap, rfl, hNB, hWC, hne, hgw, haw, hEC⟩ := hcut
    have NB := Lib.hid hNB; have WC := Lib.hid hWC; have EC := Lib.hid (B2.out.trans (hEC.mono hw02))
    have hg0 : w0.heap.size ≤ g := by omega
    have ha0 : w0.heap.size ≤ ao.block := by omega
    clear hNB hWC hEC p0 p1 p2 hgw haw
    go_wp2_with fail
    go_loopw [11] (fun nv wr => ∃ (nn f k : Nat) (q : Int) (out : List Int), nv = .int .i64 nn ∧ nn ≤ bn ∧ Hid (f + nn = bn) ∧ k < m ∧ (0 ≤ q ∧ q ≤ st - 1) ∧ Hid (out.length = m) ∧ Hid (∀ x ∈ out, 0 ≤ x ∧ x ≤ sy - 1) ∧ Hid (R = fwT (fwGo rs sy f nn q k out)) ∧ Hid (Blk wr g 57 #[i64 q, i64 (k : Int), .slice (some ao) m cap]) ∧ Hid (Wr wr ao.block (ao.block + 1) (some ao) m (out.map i64)) ∧ Hid (Below w0.heap.size w0 wr)) (fun nv _ => bn - (intOf nv).toNat)
    case atStart => exact ⟨0, bn, an, s, xs, rfl, by omega, by unfold Hid; omega, ham, hs, HLx.out, HXS.out, HE.out, NB.out, WC.out, EC.out⟩
    case round =>
      clear NB WC EC
      obtain ⟨nn, f, k, q, out, rfl, hnn, hfn, hk, hq, hol, hoi, hr, hN, hW, hB⟩ := hrel
      obtain ⟨ao', cc, eo, hab, hy, hcy⟩ := hW.out.rdI.at_ hk
      injection eo with eo; subst eo
      have hcr := hoi.out cc (List.mem_of_getElem? hy)
      obtain ⟨j, x, hj, hm0, hm1, hx, hxr, hxc⟩ := rule_find HU1.out hq hcr
      have hP := M0.out.below hB.out
      have hjn : j < n := by have h1 := (List.getElem?_eq_some_iff.1 hx).1; have h2 := HLr.out; omega
      obtain ⟨ad, x2, rfl, _, hx2, hc0, hc1, hc2⟩ := hP.rd.at_ hjn
      have hx3 : x2 = x := by rw [hx] at hx2; injection hx2 with hx2; exact hx2.symm
      subst hx3
      obtain ⟨p, mv, nx⟩ := x2
      have hm3 := machB_bd HU1.out
      have v1 : IntKind.i64.wrap (q * sy) = q * sy := IntWalk.i64_in _ (by omega)
      have v2 : IntKind.i64.wrap (q * sy + cc) = (j : Int) := (IntWalk.i64_in _ (by omega)).trans hj
      have n0 := hN.out.cell 0; have n1 := hN.out.cell 1; have n2 := hN.out.cell 2
      simp at n0 n1 n2
      have hgw := hN.out.lt
      have h0' := hP.c0; have h2' := hP.c2
      have y0 := Ext.cell h0'; have y2 := Ext.cell h2'; have yc := Ext.cell hcy
      have z0 := Ext.cell hc0; have z1 := Ext.cell hc1; have z2 := Ext.cell hc2
      have t0 := Ext.cell n0; have t1 := Ext.cell n1; have t2 := Ext.cell n2
      have HY := Lib.hid hy; have HXR := Lib.hid hxr; have HXC := Lib.hid hxc
      clear hy hxr hxc hx hx2 hj hP h0' h2' hc0 hc1 hc2 hcy n0 n1 n2 hm3
      go_wp2_with fail
      refine Mix.wp_region_mix [0, 3, 0, 3, 0, 3, 0, 0, 3, 0, 3, 0, 3, 0, 0, 3, 1, 2] (fun w' => ∃ x : Ext wr, w' = x.w) (by kernel_rfl) (by kernel_rfl) (InExt.drew _) ?_
      repeat (first | (refine Mix.wpMix_read (by rfl) ?_; go_big_quiet_step (fail); refine wpQuiet_nil ?_) | (refine Mix.wpMix_pure (by rfl) ?_; go_big_quiet_step (fail); refine wpQuiet_nil ?_))
      refine Mix.wpMix_chg (by rfl) (fun K hK => ?_)
      go_wp2_with fail
      refine hK _ _ ⟨⟨_, below_drew (below_size.alloc (Nat.le_refl _) _)⟩, rfl⟩ ?_
      clear hK K
      repeat (first | (refine Mix.wpMix_read (by rfl) ?_; go_big_quiet_step (fail); refine wpQuiet_nil ?_) | (refine Mix.wpMix_pure (by rfl) ?_; go_big_quiet_step (fail); refine wpQuiet_nil ?_))
      refine Mix.wpMix_tail (by rfl) (fun K hK => ?_)
      go_wp2_with fail
      refine hK _ _ ?_
      clear hK K
      (refine Mix.wpMix_nil ?_; try simp only [Exit.then])
      clear y0 y2 yc z0 z1 z2 v1 v2 t0 t1 t2
      go_wp2_with fail
      obtain ⟨wn, hwn⟩ : ∃ wn, (wr.alloc (.cells #[i64 p, i64 mv, i64 nx] 127)).drew = wn := ⟨_, rfl⟩
      rw [hwn]
      have XB := Lib.hid (show Blk wn wr.heap.size 127 #[i64 p, i64 mv, i64 nx] by rw [← hwn]; exact (Blk.new wr _ _).drew)
      have EB := Lib.hid (show Below wr.heap.size wr wn by rw [← hwn]; exact below_drew (below_size.alloc (Nat.le_refl _) _))
      have hz0 := hB.out.size
      have BN := Lib.hid (hB.out.trans (EB.out.mono hz0))
      clear hwn
      have b0 := XB.out.cell 0; have b1 := XB.out.cell 1; have b2 := XB.out.cell 2
      simp at b0 b1 b2
      by_cases hnon : (p, mv, nx) = noneR
      · have HF := Lib.hid (show R = ((q, (k : Int), out), (nn : Int), 0, 0) by rw [hr.out, fwGo_none HY.out (HXR.out.trans hnon)]; rfl)
        have hd := decide_eq_true hnon
        clear hr hnon
        go_wp2_with fail
        refine (isRule_c _ _ _ _).mono ?_
        rintro e w3 ⟨rfl, em⟩
        rw [hd]
        clear hd b0 b1 b2
        have N3 := Lib.hid ((hN.out.keep EB.out).keep em); have W3 := Lib.hid ((hW.out.below EB.out).below em); have B3 := Lib.hid (below_chain BN.out BN.out.size em)
        have O3 := Lib.hid (O0.out.below B3.out hg6)
        have n0 := N3.out.cell 0; have n1 := N3.out.cell 1; have n2 := N3.out.cell 2; have o0 := O3.out.cell 0; have o1 := O3.out.cell 1; have o2 := O3.out.cell 2; have f0 := O3.out.frozen 0; have f1 := O3.out.frozen 1; have f2 := O3.out.frozen 2
        simp at n0 n1 n2 o0 o1 o2
        clear em
        go_wp2_with fail
        refine bodyPost_ret (v := .tuple #[.agg #[i64 q, i64 (k : Int), .slice (some ao) m cap], i64 (nn : Int), i64 0, i64 0]) (by simp [results, Try.results38, go_sem, o0, o1, o2]) rfl ?_
        exact FwOut.fin HF.out B0.out B3.out hg6 (by omega) ha0 W3.out (by omega) (by omega)
      have hd := decide_eq_false hnon
      go_wp2_with fail
      refine (isRule_c _ _ _ _).mono ?_
      rintro e w3 ⟨rfl, em⟩
      rw [hd]
      clear hd b0 b1 b2
      obtain ⟨hpr, hmv, hnx⟩ := HXC.out.resolve_left hnon |>.2
      have N3 := Lib.hid ((hN.out.keep EB.out).keep em); have W3 := Lib.hid ((hW.out.below EB.out).below em); have B3 := Lib.hid (below_chain BN.out BN.out.size em); have X3 := Lib.hid (XB.out.keep em)
      have O3 := Lib.hid (O0.out.below B3.out hg6)
      have n0 := N3.out.cell 0; have n1 := N3.out.cell 1; have n2 := N3.out.cell 2
      simp at n0 n1 n2
      have HN := Lib.hid hnon
      clear em hnon
      by_cases hst' : nn = bn
      · have HF := Lib.hid (show R = ((q, (k : Int), out), (nn : Int), 3, 0) by rw [hr.out, show f = 0 by have := hfn.out; omega, fwGo_stop HY.out HXR.out HN.out]; rfl)
        have e0 : ((nn : Int) == (bn : Int)) = true := by simp [hst']
        have o0 := O3.out.cell 0; have o1 := O3.out.cell 1; have o2 := O3.out.cell 2; have f0 := O3.out.frozen 0; have f1 := O3.out.frozen 1; have f2 := O3.out.frozen 2
        simp at o0 o1 o2
        clear hst' hr
        go_wp2_with fail
        refine bodyPost_ret (v := .tuple #[.agg #[i64 q, i64 (k : Int), .slice (some ao) m cap], i64 (nn : Int), i64 3, i64 0]) (by simp [results, Try.results38, go_sem, o0, o1, o2]) rfl ?_
        exact FwOut.fin HF.out B0.out B3.out hg6 (by omega) ha0 W3.out (by omega) (by omega)
      have e0 : ((nn : Int) == (bn : Int)) = false := by simp; omega
      have hlt : nn < bn := by omega
      obtain ⟨f', hf'⟩ : ∃ f', f = f' + 1 := ⟨f - 1, by have := hfn.out; omega⟩
      subst hf'
      have c0 := X3.out.cell 0
      simp at c0
      obtain ⟨ao2, cc2, eo2, _, _, hcy2⟩ := W3.out.rdI.at_ hk
      injection eo2 with eo2; subst eo2
      have hf2 : w3.frozen? (ao.add k) = false := by
        obtain ⟨a', v, e, _, _, _, _, _, hf⟩ := W3.out.at_ hk
        injection e with e; subst e; exact hf
      have hao3 : ao.block < wr.heap.size := hab
      -- the cells behind the two stores
      have N4 := N3.out.far (p := ao.add k) (by rw [block_add]; exact fun e => hne e.symm) (i64 p)
      have X4 := X3.out.far (p := ao.add k) (by rw [block_add]; omega) (i64 p)
      have O4 := O3.out.far (p := ao.add k) (by rw [block_add]; omega) (i64 p)
      have W4 := W3.out.set hk (i64 p)
      have B4 := B3.out.setCell (p := ao.add k) (by rw [block_add]; exact ha0) (i64 p)
      have N5 := N4.set_ 0 (i64 nx)
      have X5 := X4.far (p := ⟨g, 0, none⟩) (by show wr.heap.size ≠ g; omega) (i64 nx)
      have O5 := O4.far (p := ⟨g, 0, none⟩) (by show _ ≠ g; omega) (i64 nx)
      have W5 := W4.set_far (p := ⟨g, 0, none⟩) (by show g < _ ∨ _ ≤ g; omega) (i64 nx)
      have B5 := B4.setCell (p := ⟨g, 0, none⟩) (by exact hg0) (i64 nx)
      simp at N5
      rw [← List.map_set] at W5
      have d2 := X4.cell 2; have d0 := N4.cell 0; have df := N4.frozen 0
      have d1 := X5.cell 1; have e1 := N5.cell 1; have e2 := N5.cell 2; have e3 := N5.cell 0
      simp at d2 d0 d1 e1 e2 e3
      have N6 := Lib.hid N5; have W6 := Lib.hid W5; have B6 := Lib.hid B5; have O6 := Lib.hid O5
      have HSI := Lib.hid (set_in (k := k) hoi.out hpr)
      have HSL := Lib.hid (show (out.set k p).length = m by rw [List.length_set]; exact hol.out)
      clear N4 X4 O4 W4 B4 N5 X5 O5 W5 B5 X3 hst'
      by_cases hl : (k : Int) + mv < 0
      · have HF := Lib.hid (show R = ((nx, (k : Int), out.set k p), ((nn + 1 : Nat) : Int), 1, 0) by rw [hr.out, fwGo_left HY.out HXR.out HN.out hl]; rfl)
        have va : IntKind.i64.wrap ((k : Int) + mv) = (k : Int) + mv := IntWalk.i64_in _ (by omega)
        have vb : decide ((k : Int) + mv < 0) = true := decide_eq_true hl
        have o0 := O6.out.cell 0; have o1 := O6.out.cell 1; have o2 := O6.out.cell 2; have f0 := O6.out.frozen 0; have f1 := O6.out.frozen 1; have f2 := O6.out.frozen 2
        simp at o0 o1 o2
        clear hl hr hmv
        go_wp2_with fail
        refine bodyPost_ret (v := .tuple #[.agg #[i64 nx, i64 (k : Int), .slice (some ao) m cap], i64 ((nn : Int) + 1), i64 1, i64 0]) (by simp [results, Try.results38, go_sem, o0, o1, o2]) rfl ?_
        exact FwOut.fin (by rw [HF.out]; rfl) B0.out B6.out hg6 (by omega) ha0 W6.out (by omega) (by omega)
      by_cases hl2 : (k : Int) + mv = m
      · have HF := Lib.hid (show R = ((nx, (k : Int), out.set k p), ((nn + 1 : Nat) : Int), 2, 0) by rw [hr.out, fwGo_right HY.out HXR.out HN.out (by rw [hol.out]; exact hl2)]; rfl)
        have va : IntKind.i64.wrap ((k : Int) + mv) = (m : Int) := (IntWalk.i64_in _ (by omega)).trans hl2
        have vb : ((m : Int) == (m : Int)) = true := by simp
        have o0 := O6.out.cell 0; have o1 := O6.out.cell 1; have o2 := O6.out.cell 2; have f0 := O6.out.frozen 0; have f1 := O6.out.frozen 1; have f2 := O6.out.frozen 2
        simp at o0 o1 o2
        clear hl hl2 hr hmv
        go_wp2_with (go_at_call 103; refine (sizeI_c _ _ _ _ (by omega)).mono ?_; rintro e w' ⟨rfl, rfl⟩)
        refine bodyPost_ret (v := .tuple #[.agg #[i64 nx, i64 (k : Int), .slice (some ao) m cap], i64 ((nn : Int) + 1), i64 2, i64 0]) (by simp [results, Try.results38, go_sem, o0, o1, o2]) rfl ?_
        exact FwOut.fin (by rw [HF.out]; rfl) B0.out B6.out hg6 (by omega) ha0 W6.out (by omega) (by omega)
      obtain ⟨k', hk'⟩ := Int.eq_ofNat_of_zero_le (show 0 ≤ (k : Int) + mv by omega)
      have hkm : k' < m := by omega
      have HF := Lib.hid (show R = fwT (fwGo rs sy f' (nn + 1) nx k' (out.set k p)) by rw [hr.out, fwGo_on HY.out HXR.out HN.out (by rw [hol.out]; exact hl2) hk'])
      have va : IntKind.i64.wrap ((k : Int) + mv) = (k' : Int) := (IntWalk.i64_in _ (by omega)).trans hk'
      have vb : ((k' : Int) == (m : Int)) = false := by simp; omega
      have nf1 := N6.out.frozen 1
      clear hl hl2 hr hmv hk'
      go_wp2_with (go_at_call 103; refine (sizeI_c _ _ _ _ (by omega)).mono ?_; rintro e w' ⟨rfl, rfl⟩)
      go_roundw
      case rel =>
        refine ⟨nn + 1, f', k', nx, out.set k p, by go_num, by omega, by have := hfn.out; unfold Hid; omega, hkm, hnx, HSL.out, HSI.out, HF.out, ?_, ?_, ?_⟩
        · have := N6.out.set_ 1 (i64 (k' : Int)); unfold Hid; simpa using this
        · exact W6.out.set_far (p := ⟨g, 1, none⟩) (by show g < _ ∨ _ ≤ g; omega) _
        · exact B6.out.setCell (p := ⟨g, 1, none⟩) (by exact hg0) _
      case measure => simp [intOf] <;> omega
end Go.Proofs.Ytdnicjeadpefnaa
