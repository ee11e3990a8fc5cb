/-
  Contracts of chapter 28 (automata): the reference's closure, and whether it avoids halting.
-/
import Derived.Test.YtmmgejnhfpfmnaaC28n
namespace Go.Proofs.Ytmmgejnhfpfmnaa
open Go.RowKit

/-- a slice of the call's own whose elements are rows that are only read -/
structure OwnR (w : World) (B : Nat) (e : TypeId) (A : Option Addr) (n c : Nat) (its : List It) : Prop where
  own : Own w B e 1 A n c (its.map hdI)
  rows : ∀ t ∈ its, Wr w B w.heap.size t.A t.n (t.xs.map i64)
  ne : ∀ t ∈ its, ∀ ad a, A = some ad → t.A = some a → 0 < t.n → a.block ≠ ad.block
section
variable {w w' : World} {B : Nat} {e : TypeId} {n c : Nat} {A : Option Addr} {its : List It}
theorem OwnR.move (h : OwnR w B e A n c its) (hk : ∀ b, B ≤ b → b < w.heap.size → w'.heap[b]? = w.heap[b]?) (hs : w.heap.size ≤ w'.heap.size) : OwnR w' B e A n c its :=
  ⟨h.own.move fun ad ha => hk _ (h.own.block ha).1 (h.own.block ha).2.1,
   fun t ht => (h.rows t ht).move (fun ad hn e => by obtain ⟨ad', e', h1, _, h3, _⟩ := (h.rows t ht).2 hn; rw [e] at e'; injection e' with e'; subst e'; exact hk _ h1 h3) hs hs, h.ne⟩
theorem OwnR.keep (h : OwnR w B e A n c its) (hb : Below w.heap.size w w') : OwnR w' B e A n c its := h.move (fun b _ hlt => hb.block b hlt) hb.size
theorem OwnR.drewN (h : OwnR w B e A n c its) (k : Nat) : OwnR (w.drewN k) B e A n c its := h.keep (below_drewN below_size k)
theorem OwnR.far (h : OwnR w B e A n c its) {p : Addr} (hp : p.block < B) (u : Value) : OwnR (w.setCell p u) B e A n c its :=
  h.move (fun b hb _ => Below.heap_setCell w p u b (by omega)) (by simp)
theorem OwnR.push {g' cap n' : Nat} {t : It} (h : OwnR w B e A n c its) (ht : Wr w B w.heap.size t.A t.n (t.xs.map i64)) (hne : ∀ ad a, A = some ad → t.A = some a → 0 < t.n → a.block ≠ ad.block)
    (hown : Own w' B e 1 (some ⟨g', 0, none⟩) n' cap (its.map hdI ++ [hdI t])) (hk : ∀ b, b < w.heap.size → (∀ ad', A = some ad' → ad'.block ≠ b) → w'.heap[b]? = w.heap[b]?) (hg : A = some ⟨g', 0, none⟩ ∨ w.heap.size ≤ g') (hz : w.heap.size ≤ w'.heap.size) :
    OwnR w' B e (some ⟨g', 0, none⟩) n' cap (its ++ [t]) := by
  have hone : ∀ s : It, Wr w B w.heap.size s.A s.n (s.xs.map i64) → (∀ ad a, A = some ad → s.A = some a → 0 < s.n → a.block ≠ ad.block) → Wr w' B w'.heap.size s.A s.n (s.xs.map i64) ∧ ∀ a, s.A = some a → 0 < s.n → a.block ≠ g' := by
    intro s hs hn
    refine ⟨hs.move (fun ad h0 e => ?_) hz hz, fun a ha h0 => ?_⟩
    · obtain ⟨ad', e', _, _, h3, _⟩ := hs.2 h0
      rw [e] at e'; injection e' with e'; subst e'
      exact hk _ h3 (fun ad' hA => (hn ad' ad hA e h0).symm)
    · obtain ⟨ad', e', _, _, h3, _⟩ := hs.2 h0
      rw [ha] at e'; injection e' with e'; subst e'
      rcases hg with hg | hg
      · exact hn _ a hg ha h0
      · omega
  refine ⟨by rw [List.map_append]; exact hown, fun s hs => ?_, fun s hs ad a had ha h0 => ?_⟩
  · rcases List.mem_append.1 hs with hs | hs
    · exact (hone s (h.rows s hs) (h.ne s hs)).1
    · rw [List.mem_singleton] at hs; subst hs; exact (hone s ht hne).1
  · injection had with had; subst had
    rcases List.mem_append.1 hs with hs | hs
    · exact (hone s (h.rows s hs) (h.ne s hs)).2 a ha h0
    · rw [List.mem_singleton] at hs; subst hs; exact (hone s ht hne).2 a ha h0
theorem OwnR.at_ {k : Nat} (h : OwnR w B e A n c its) (hk : k < n) : ∃ g t, A = some ⟨g, 0, none⟩ ∧ B ≤ g ∧ g < w.heap.size ∧ its[k]? = some t ∧ w.cell? ⟨g, k, none⟩ = some (.slice t.A t.n t.c) ∧ RdI w t.A t.n t.xs := by
  have hl : its.length = n := by have := h.own.len; simpa using this
  have ht : its[k]? = some its[k] := List.getElem?_eq_getElem (by omega)
  obtain ⟨ad, v, e, h1, h2, _, hv, hc, _⟩ := h.own.wr.at_ hk
  have hb := (h.own.block e).2.2.1
  rw [List.getElem?_map, ht] at hv
  injection hv with hv; subst hv
  rw [hb, head_add] at hc
  exact ⟨ad.block, _, by rw [e, hb], h1, h2, ht, hc, (h.rows _ (List.getElem_mem (by omega))).rdI⟩
end
theorem row_of {its : List It} {l : List Nd} {k : Nat} {t : It} {y : Nd} (h : its.map It.xs = l.map ndL) (ht : its[k]? = some t) (hy : l[k]? = some y) : t.xs = ndL y := by
  have := congrArg (fun l => l[k]?) h
  simp only [List.getElem?_map, ht, hy, Option.map_some] at this
  injection this
def sortO (st sy sr : Int) (K : Nat) (o : Option (List Nd)) : List Nd := match o with | none => [] | some l => sortN st sy sr l K
/-- the abstractions that are reached, or none -/
def ClOut (st sy sr : Int) (K : Nat) (o : Option (List Nd)) (w : World) (e : Ending) (w' : World) : Prop :=
  ∃ A n c its, e = .returned (.tuple #[.slice A n c, .bool o.isSome]) ∧ WrS w' w.heap.size w'.heap.size (sgII A n its) ∧ n ≤ 3000000 ∧ (∀ t ∈ its, t.n = 4) ∧ its.map It.xs = (sortO st sy sr K o).map ndL ∧ Below w.heap.size w w'
theorem size_bd {sl st sy sr : Int} (hsl : 1 ≤ sl ∧ sl ≤ 20) (hst : 1 ≤ st ∧ st ≤ 1000) (hsy : 2 ≤ sy ∧ sy ≤ 6) (hsr : 1 ≤ sr ∧ sr ≤ 20) : (1 ≤ sl * st ∧ sl * st ≤ 20000) ∧ (1 ≤ sl * st * sy ∧ sl * st * sy ≤ 120000) ∧ (1 ≤ sl * st * sy * sr ∧ sl * st * sy * sr ≤ 2400000) := by
  have g1 : 1 * 1 ≤ sl * st := Int.mul_le_mul (by omega) (by omega) (by omega) (by omega)
  have g2 := (mul_le2 (a := sl) (b := st) (A := 20) (B := 1000) (by omega) (by omega)).2
  have g3 : 1 * 1 ≤ sl * st * sy := Int.mul_le_mul (by omega) (by omega) (by omega) (by omega)
  have g4 := (mul_le2 (a := sl * st) (b := sy) (A := 20000) (B := 6) (by omega) (by omega)).2
  have g5 : 1 * 1 ≤ sl * st * sy * sr := Int.mul_le_mul (by omega) (by omega) (by omega) (by omega)
  have g6 := (mul_le2 (a := sl * st * sy) (b := sr) (A := 120000) (B := 20) (by omega) (by omega)).2
  omega
theorem info_boolC : (Try.prog.info? 4).map (fun i => (i.zero, i.size, i.bytes)) = some (some (.bool false), 1, 1) := by kernel_rfl
theorem Own.litR {w : World} {B : Nat} {e : TypeId} {v : Value} (hB : B ≤ w.heap.size) : Own (w.alloc (.cells #[v] e)) B e 1 (some ⟨w.heap.size, 0, none⟩) 1 1 [v] :=
  ⟨by simp, .inr ⟨w.heap.size, 1, #[v], rfl, hB, heap_alloc_new w _, by omega, by simp [maxLen], by simp, by simp⟩⟩
/-- the row of an abstraction -/
theorem OwnR.row {w : World} {B : Nat} {e : TypeId} {A : Option Addr} {n c i : Nat} {its : List It} {l : List Nd} {x : Nd} {ot : List It} (h : OwnR w B e A n c its) (hx : its.map It.xs = l.map ndL) (hi : i < n) (hl : l[i]? = some x) (_ : ot = []) :
    ∃ g t, A = some ⟨g, 0, none⟩ ∧ its[i]? = some t ∧ w.cell? ⟨g, i, none⟩ = some (.slice t.A 4 t.c) ∧ RdI w t.A 4 (ndL x) ∧ t.n = 4 := by
  obtain ⟨g, t, e, _, _, ht, hc, hr⟩ := h.at_ hi
  have e2 := row_of hx ht hl
  rw [e2] at hr
  have hn : t.n = 4 := by have := hr.len; simpa [ndL] using this.symm
  rw [hn] at hc hr
  exact ⟨g, t, e, ht, hc, hr, hn⟩
set_option maxHeartbeats 8000000 in
set_option maxRecDepth 100000 in
theorem l28Closure_c (g : Nat) (sy st : Int) (A : Option Addr) (n cp : Nat) (rs : List Rule3) (gl : Nat) (sl : Int) (Al : Option Addr) (nl cl : Nat) (xl : List Int) (gr : Nat) (sr : Int) (Ar : Option Addr) (nr cr : Nat) (xr : List Int) (kz : Nat) (w : World)
    (h : MachP w g sy st A n cp rs) (hl : DfaP w gl sl Al nl cl xl) (hr : DfaP w gr sr Ar nr cr xr) (hm : machB sy st rs = true) (hdl : DfaOk sl sy xl) (hdr : DfaOk sr sy xr) (hkz : (kz : Int) = sl * st * sy * sr) :
    Calls Try.prog 59 #[.pointer (some ⟨g, 0, none⟩), .pointer (some ⟨gl, 0, none⟩), .pointer (some ⟨gr, 0, none⟩)] w (ClOut st sy sr kz (clR rs sy xl xr) w) := by
  have hsy := (machB_bd hm).1; have hst := (machB_bd hm).2.1; have hsl := hdl.stt; have hsr := hdr.stt
  obtain ⟨f1, f2, f3⟩ := size_bd hsl hst hsy hsr
  have H := Lib.hid h; have HL := Lib.hid hl; have HR := Lib.hid hr; have HM := Lib.hid hm; have HDL := Lib.hid hdl; have HDR := Lib.hid hdr
  have HKZ := Lib.hid hkz
  obtain ⟨o, ho⟩ : ∃ o, clR rs sy xl xr = o := ⟨_, rfl⟩
  have HO := Lib.hid ho
  rw [ho]
  have v1 : IntKind.i64.wrap (sl * st) = sl * st := IntWalk.i64_in _ (by omega)
  have v2 : IntKind.i64.wrap (sl * st * sy) = sl * st * sy := IntWalk.i64_in _ (by omega)
  have v3 : IntKind.i64.wrap (sl * st * sy * sr) = (kz : Int) := (IntWalk.i64_in _ (by omega)).trans hkz.symm
  have hKb : 1 ≤ kz ∧ kz ≤ 2400000 := by omega
  have hmk : ∀ w, (Instr.makeSlice 130 (.int .i64 kz) (.int .i64 kz)).run Try.prog w = .ok (.slice (some ⟨w.heap.size, 0, none⟩) kz kz) (w.alloc (.cells (Array.replicate kz (.bool false)) 4)) := fun w => run_mk (P := Try.prog) 130 4 (.bool false) 1 Try.underlying130 info_boolC rfl .i64 .i64 kz kz (by omega) (by omega) (by omega) w
  have m0 := h.c0; have m1 := h.c1; have l0 := hl.c0; have r0 := hr.c0
  have y0 := Ext.cell m0; have y1 := Ext.cell m1; have y2 := Ext.cell l0; have y3 := Ext.cell r0
  have OK0 := Lib.hid (show NdOk sl st sy sr (0, 0, 0, 0) from ⟨⟨Int.le_refl 0, by show (0 : Int) < sl; omega⟩, ⟨Int.le_refl 0, by show (0 : Int) < st; omega⟩, ⟨Int.le_refl 0, by show (0 : Int) < sy; omega⟩, ⟨Int.le_refl 0, by show (0 : Int) < sr; omega⟩⟩)
  clear h hl hr hm hdl hdr ho hkz f1 f2 f3
  go_enter Try.func59, Try.ntmps59
  go_wp2_with fail
  refine Mix.wp_region_mix [0, 0, 0, 3, 0, 0, 0, 3, 0, 0, 0, 0, 3, 0, 0, 0, 0, 3, 0, 1, 0] (fun w' => ∃ x : Ext w, w' = x.w) (by kernel_rfl) (by kernel_rfl) (InExt.drew _) ?_
  repeat (first | (refine Mix.wpMix_read (by rfl) ?_; go_big_quiet_step (fail); refine wpQuiet_nil ?_) | (refine Mix.wpMix_pure (by rfl) ?_; go_big_quiet_step (fail); refine wpQuiet_nil ?_))
  refine Mix.wpMix_chg (by rfl) (fun K hK => ?_)
  go_wp2_with fail
  refine hK _ _ ⟨⟨_, below_drew (below_size.alloc (Nat.le_refl _) _)⟩, rfl⟩ ?_
  clear hK K
  repeat (first | (refine Mix.wpMix_read (by rfl) ?_; go_big_quiet_step (fail); refine wpQuiet_nil ?_) | (refine Mix.wpMix_pure (by rfl) ?_; go_big_quiet_step (fail); refine wpQuiet_nil ?_))
  (refine Mix.wpMix_nil ?_; try simp only [Exit.then])
  clear y0 y1 y2 y3 v1 v2 v3 hmk m0 m1 l0 r0
  obtain ⟨w1, hw1⟩ : ∃ w1, (w.alloc (.cells (Array.replicate kz (.bool false)) 4)).drew = w1 := ⟨_, rfl⟩
  have SE := Lib.hid (show Wr w1 w.heap.size (w.heap.size + 1) (some ⟨w.heap.size, 0, none⟩) kz ((seenL (keyN st sy sr) kz []).map Value.bool) by
    rw [← hw1]
    exact ((Blk.new w 4 (Array.replicate kz (.bool false))).drew).wr (Nat.le_refl _) (by omega) (by rw [seenL_nil, List.map_replicate, Array.toList_replicate]; exact List.take_of_length_le (by simp)) (by simp))
  have E1 := Lib.hid (show Below w.heap.size w w1 by rw [← hw1]; exact below_drew (below_size.alloc (Nat.le_refl _) _))
  have hz1 : w1.heap.size = w.heap.size + 1 := by rw [← hw1]; simp
  have hz1' : w.heap.size + 1 ≤ w1.heap.size := by omega
  rw [hw1]
  have HZ1 := Lib.hid hz1
  clear hw1 hz1
  obtain ⟨_, sv, es, _, _, _, hsv, hsc, hsf⟩ := SE.out.at_ (k := 0) (by omega)
  injection es with es; subst es
  rw [head_add] at hsc hsf
  have S1 := Lib.hid (show Wr (w1.setCell ⟨w.heap.size, 0, none⟩ (.bool true)) w.heap.size (w.heap.size + 1) (some ⟨w.heap.size, 0, none⟩) kz ((seenL (keyN st sy sr) kz [(0, 0, 0, 0)]).map Value.bool) by
    have := SE.out.set (k := 0) (by omega) (.bool true)
    rw [head_add] at this
    have e := seenL_set (f := keyN st sy sr) (l := []) (y := (0, 0, 0, 0)) (k := 0) (K := kz) (by simp [keyN]) (by omega)
    rw [List.nil_append] at e
    rw [← e, List.map_set]; exact this)
  obtain ⟨wp, hwp⟩ : ∃ wp, w1.setCell ⟨w.heap.size, 0, none⟩ (.bool true) = wp := ⟨_, rfl⟩
  rw [hwp] at S1
  have EP := Lib.hid (show Below w.heap.size w wp by rw [← hwp]; exact E1.out.setCell (by exact Nat.le_refl _) _)
  have hzp : wp.heap.size = w1.heap.size := by rw [← hwp]; simp
  obtain ⟨wq, hwq⟩ : ∃ wq, (wp.alloc (.cells #[i64 0, i64 0, i64 0, i64 0] 2)).alloc (.cells #[.slice (some ⟨w1.heap.size, 0, none⟩) 4 4] 25) = wq := ⟨_, rfl⟩
  have EQ := Lib.hid (show Below wp.heap.size wp wq by rw [← hwq]; exact (below_size.alloc (Nat.le_refl _) _).alloc (by simp) _)
  have RQ := Lib.hid (show OwnR wq (w.heap.size + 1) 25 (some ⟨w1.heap.size + 1, 0, none⟩) 1 1 [⟨some ⟨w1.heap.size, 0, none⟩, 4, 4, [0, 0, 0, 0]⟩] by
    have hb0 : Blk wq w1.heap.size 2 #[i64 0, i64 0, i64 0, i64 0] := by rw [← hwq, ← hzp]; exact (Blk.new wp _ _).alloc _
    have hzq : wq.heap.size = w1.heap.size + 1 + 1 := by rw [← hwq]; simp [hzp]
    refine ⟨?_, fun t ht => ?_, fun t ht ad a had ha h0 => ?_⟩
    · have := Own.litR (w := wp.alloc (.cells #[i64 0, i64 0, i64 0, i64 0] 2)) (B := w.heap.size + 1) (e := 25) (v := .slice (some ⟨w1.heap.size, 0, none⟩) 4 4) (by simp; omega)
      rw [hwq, World.size_alloc, hzp] at this
      exact this
    · rw [List.mem_singleton] at ht; subst ht
      exact hb0.wr hz1' (by omega) rfl (by simp)
    · rw [List.mem_singleton] at ht; subst ht
      injection had with had; injection ha with ha
      subst had; subst ha; show w1.heap.size ≠ w1.heap.size + 1; omega)
  have SQ := Lib.hid (S1.out.below EQ.out)
  have hsc2 : ∀ o o', ((w1.alloc o).alloc o').cell? ⟨w.heap.size, 0, none⟩ = some sv := fun o o' => keepa o' (keepa o hsc)
  have hsf2 : ∀ o o', ((w1.alloc o).alloc o').frozen? ⟨w.heap.size, 0, none⟩ = false := fun o o' => by
    rw [← hsf]; exact World.frozen?_of_block (((below_size.alloc (Nat.le_refl _) o).alloc (by simp) o').block _ (by show w.heap.size < w1.heap.size; omega))
  have hKz0 : 0 < kz := by omega
  clear hsc hsf hsv
  have HD0 := Lib.hid (show clGo rs sy xl xr 3001 0 [(0, 0, 0, 0)] = o from HO.out)
  have EQ2 := Lib.hid (below_chain EP.out EP.out.size EQ.out)
  go_wp2_with fail
  clear hsc2 hsf2 hwp hwq hzp
  go_loopw [9, 10] (fun lv iv wr => ∃ (i m : Nat) (O : Option Addr) (oc : Nat) (its : List It) (l : List Nd), i ≤ m ∧ m ≤ 3000 ∧ iv = .int .i64 i ∧ lv = .slice O m oc ∧ Hid (its.map It.xs = l.map ndL) ∧ Hid (l.length = m) ∧ Hid (clGo rs sy xl xr (3001 - i) i l = o) ∧ Hid (∀ y ∈ l, NdOk sl st sy sr y) ∧
    Hid (OwnR wr (w.heap.size + 1) 25 O m oc its) ∧ Hid (Wr wr w.heap.size (w.heap.size + 1) (some ⟨w.heap.size, 0, none⟩) kz ((seenL (keyN st sy sr) kz l).map Value.bool)) ∧ Below w.heap.size w wr ∧ w.heap.size + 1 ≤ wr.heap.size) (fun _ iv _ => 3001 - (intOf iv).toNat)
  case atStart => exact ⟨0, 1, _, 1, [⟨some ⟨w1.heap.size, 0, none⟩, 4, 4, [0, 0, 0, 0]⟩], [(0, 0, 0, 0)], by omega, by omega, rfl, rfl, rfl, rfl, HD0.out, fun y hy => by rw [List.mem_singleton] at hy; subst hy; exact OK0.out, RQ.out, SQ.out, EQ2.out, by have := EQ.out.size; have := EP.out.size; have := SQ.out.at_ (k := 0) (by omega); obtain ⟨a, _, e, _, _, h, _⟩ := this; injection e with e; subst e; exact h⟩
  case round =>
    obtain ⟨i, m, O, oc, its, l, him, hm3, rfl, rfl, hx, hlm, hgo, hok, hO, hS, hb, hz⟩ := hrel
    have HB := Lib.hid hb
    by_cases hlt : i < m
    · obtain ⟨x, hxi⟩ : ∃ x, l[i]? = some x := ⟨_, List.getElem?_eq_getElem (by have := hlm.out; omega)⟩
      obtain ⟨gO, t, rfl, hti, hct, hrt, _⟩ := hO.out.row (ot := []) hx.out hlt hxi rfl
      have hxok := hok.out x (List.mem_of_getElem? hxi)
      have HX := Lib.hid hxi; have HXO := Lib.hid hxok; have HRT := Lib.hid hrt
      have hst2 := HM.out
      have hc := l28Steps_c g sy st A n cp rs gl sl Al nl cl xl gr sr Ar nr cr xr t.A t.c x wr (H.out.below hb) (HL.out.below hb) (HR.out.below hb) HM.out HDL.out HDR.out hrt hxok
      have HC := Lib.hid hc
      have hnn := stepsN_len (rs := rs) (sy := sy) (xl := xl) (xr := xr) (x := x) (by have h1 := HDL.out.len; have h2 := mul_bd HDL.out.sy HDL.out.stt; omega) (by have h1 := HDR.out.len; have h2 := mul_bd HDR.out.sy HDR.out.stt; omega)
      have hys := stepsN_ok HM.out HDL.out HDR.out hxok
      obtain ⟨Y, hY⟩ : ∃ Y, stepsN rs sy xl xr x = Y := ⟨_, rfl⟩
      rw [hY] at hnn hys HC
      have HYS := Lib.hid hys; have HY := Lib.hid hY
      have HNN := Lib.hid hnn
      clear hb hxi hxok hc hnn hys hY hrt hti hst2
      obtain ⟨wo, rfl⟩ : ∃ wo : World, wo = wr := ⟨_, rfl⟩
      go_wp2_with fail
      refine HC.out.mono ?_
      rintro e w2 ⟨A2, nn, c2, its2, rfl, hw, hp, hb⟩
      have HI2 := Lib.hid (show its2.map It.xs = Y.map ndL from hp.2.2.2)
      have hnl : its2.length = nn := RdII.len hw.rd
      have hny : Y.length = nn := by have := congrArg List.length HI2.out; simp only [List.length_map] at this; omega
      have HNY := Lib.hid hny
      have hn120 : nn ≤ 120 := by have := HNN.out; omega
      have W2 := Lib.hid hw
      have E2 := Lib.hid (below_chain HB.out (by omega) hb)
      have R2 := Lib.hid (hO.out.keep hb)
      have S2 := Lib.hid (hS.out.below hb)
      have hz2 := hb.size
      have hgO : gO < wo.heap.size := (hO.out.own.block rfl).2.1
      clear hw hp hb hct hnl hny
      go_wp2_with fail
      go_loopw [9, 12] (fun lv kv wy => ∃ (k m' : Nat) (O' : Option Addr) (oc' : Nat) (its' : List It) (l' : List Nd), k ≤ nn ∧ m' ≤ m + k ∧ kv = .int .i64 k ∧ lv = .slice O' m' oc' ∧ Hid (l' = (Y.take k).foldl addN l) ∧ Hid (its'.map It.xs = l'.map ndL) ∧ Hid (l'.length = m') ∧ Hid (∀ y ∈ l', NdOk sl st sy sr y) ∧
        Hid (OwnR wy (w.heap.size + 1) 25 O' m' oc' its') ∧ Hid (Wr wy w.heap.size (w.heap.size + 1) (some ⟨w.heap.size, 0, none⟩) kz ((seenL (keyN st sy sr) kz l').map Value.bool)) ∧ Hid (WrS wy wo.heap.size w2.heap.size (sgII A2 nn its2)) ∧ Hid (∀ ad : Addr, O' = some ad → ad.block < wo.heap.size ∨ w2.heap.size ≤ ad.block) ∧ Below w.heap.size w wy ∧ w2.heap.size ≤ wy.heap.size) (fun _ kv _ => nn - (intOf kv).toNat)
      case atStart => exact ⟨0, m, _, oc, its, l, by omega, by omega, rfl, rfl, rfl, hx.out, hlm.out, hok.out, R2.out, S2.out, W2.out, fun ad ha => by injection ha with ha; subst ha; exact .inl hgO, E2.out, Nat.le_refl _⟩
      case round =>
        obtain ⟨k, m', O', oc', its', l', hk, hmk, rfl, rfl, hl', hx', hlm', hok', hO', hS', hW', hOb, hb, hzy⟩ := hrel
        have HB' := Lib.hid hb
        by_cases hkn : k < nn
        · obtain ⟨a2, t2, rfl, ha2, ht2, hc2, hr2⟩ := RdII.at_ hW'.out.rd hkn
          obtain ⟨z, hz'⟩ : ∃ z, Y[k]? = some z := ⟨_, List.getElem?_eq_getElem (by have := HNY.out; omega)⟩
          have e2 := row_of HI2.out ht2 hz'
          have hrz : RdI wr t2.A t2.n (ndL z) := by have := hr2.head; rw [← e2]; exact this
          have hn4 : t2.n = 4 := by have := hrz.len; simpa [ndL] using this.symm
          rw [hn4] at hrz hc2
          have hzok := HYS.out z (List.mem_of_getElem? hz')
          have hwt := Lib.hid (show Wr wr wo.heap.size w2.heap.size t2.A t2.n (t2.xs.map i64) from hW'.out.each (bodyI t2) (by simp only [sgII, List.mem_cons, List.mem_map]; exact .inr ⟨t2, List.mem_of_getElem? ht2, rfl⟩))
          have hkey := keyN_lt hzok
          obtain ⟨kk, hkk⟩ := Int.eq_ofNat_of_zero_le hkey.1
          have hkl : kk < kz := by have := HKZ.out; omega
          have HL2 := Lib.hid (show (Y.take (k + 1)).foldl addN l = addN l' z by rw [take_at hz', List.foldl_append, hl'.out]; rfl)
          have HKK := Lib.hid hkk; have HZO := Lib.hid hzok; have HN4 := Lib.hid hn4; have HT2 := Lib.hid ht2; have HE2 := Lib.hid e2
          have hkc := l28Key_c g sy st A n cp rs gl sl gr sr Ar nr cr xr t2.A t2.c z wr (H.out.below hb) (HR.out.below hb) hsl hst hsy hsr hrz hzok
          rw [hkk] at hkc
          have HKC := Lib.hid hkc
          obtain ⟨_, sv, es, _, _, _, hsv, hsc, hsf⟩ := hS'.out.at_ hkl
          injection es with es; subst es
          rw [List.getElem?_map, seenL_at _ _ hkl, Option.map_some] at hsv
          injection hsv with hsv; subst hsv
          rw [head_add] at hsc hsf
          obtain ⟨q, hq⟩ : ∃ q, decide (((kk : Nat) : Int) ∈ l'.map (keyN st sy sr)) = q := ⟨_, rfl⟩
          have HQ := Lib.hid (show decide (z ∈ l') = q by rw [← hq, ← hkk]; exact decide_eq_decide.2 (key_mem hok'.out hzok).symm)
          rw [hq] at hsc
          have hsc0 := hsc
          clear hb hz' hkk hzok hn4 ht2 e2 hkc hkey hrz hr2 hq
          go_wp2_with fail
          refine HKC.out.mono ?_
          rintro e wk ⟨rfl, hqt⟩
          have EK := Lib.hid (hqt.below wr.heap.size)
          have hsc := ((bcell EK.out).1 _ kk (World.block_lt_of_cell? wr _ hsc)).trans hsc
          have hsf := ((bcell EK.out).2 _ kk (World.block_lt_of_cell? wr _ hsc0)).trans hsf
          have hc2' := keepc EK.out hc2
          have RK := Lib.hid (hO'.out.keep EK.out); have SK := Lib.hid (hS'.out.below EK.out); have WK := Lib.hid (hW'.out.below EK.out); have WT := Lib.hid (hwt.out.below EK.out)
          have BK := Lib.hid (below_chain HB'.out (by omega) EK.out)
          have hzk := EK.out.size
          clear hqt hc2 hsc0
          cases q
          · have HL3 := Lib.hid (show (Y.take (k + 1)).foldl addN l = l' ++ [z] by rw [HL2.out, addN, if_neg (of_decide_eq_false HQ.out)])
            obtain ⟨ws, hws⟩ : ∃ ws, wk.setCell ⟨w.heap.size, kk, none⟩ (.bool true) = ws := ⟨_, rfl⟩
            have hzs : ws.heap.size = wk.heap.size := by rw [← hws]; simp
            have BS := Lib.hid (show Below w.heap.size w ws by rw [← hws]; exact BK.out.setCell (by exact Nat.le_refl _) _)
            have RS := Lib.hid (show OwnR ws (w.heap.size + 1) 25 O' m' oc' its' by rw [← hws]; exact RK.out.far (by show w.heap.size < _; omega) _)
            have SS := Lib.hid (show Wr ws w.heap.size (w.heap.size + 1) (some ⟨w.heap.size, 0, none⟩) kz ((seenL (keyN st sy sr) kz (l' ++ [z])).map Value.bool) by
              have h1 := SK.out.set hkl (.bool true)
              rw [head_add, hws] at h1
              rw [← seenL_set HKK.out hkl, List.map_set]; exact h1)
            have hkeep : ∀ b, w.heap.size + 1 ≤ b → ws.heap[b]? = wk.heap[b]? := fun b h1 => by rw [← hws]; exact Below.heap_setCell wk _ _ b (by show b ≠ w.heap.size; omega)
            have WS := Lib.hid (WK.out.stay (w' := ws) (fun b h1 _ _ => hkeep b (by omega)) (by omega))
            have WTS := Lib.hid (show Wr ws wo.heap.size w2.heap.size t2.A t2.n (t2.xs.map i64) from by rw [← hws]; exact WT.out.set_far (.inl (by show w.heap.size < _; omega)) _)
            have hal : wo.heap.size ≤ a2.block := by
              obtain ⟨a, _, ea, h1, _⟩ := Wr.at_ (k := k) (hW'.out.each _ (List.mem_cons_self ..)) hkn
              injection ea with ea; subst ea; exact h1
            have hc3 : ws.cell? (a2.add k) = some (.slice t2.A 4 t2.c) := by
              rw [← hc2', ← hws]; exact World.cell?_of_block (by rw [block_add]; exact Below.heap_setCell wk _ _ _ (by show a2.block ≠ w.heap.size; omega))
            have hza : w.heap.size + 1 ≤ (ws.alloc (.cells #[.slice t2.A 4 t2.c] 25)).heap.size := by simp; omega
            have HZS := Lib.hid hzs
            clear hkeep hzs
            go_wp2_with (at_builtin; refine wp_app1 (by rfl) _ _ 27 25 (.slice none 0 0) 24 (by rfl) Try.underlying27 info_I64S rfl (w.heap.size + 1) O' m' oc' (its'.map hdI) (by rfl) (by exact RS.out.own.alloc _) ws.heap.size (.slice t2.A 4 t2.c) (by rfl) (by exact new_cell _ _ _ 0) rfl (by omega) (by omega) hza ?_; intro g' cap w5 own5 hb5 hk5 hg5 hz5)
            obtain ⟨wA, hwA⟩ : ∃ wA, ws.alloc (.cells #[.slice t2.A 4 t2.c] 25) = wA := ⟨_, rfl⟩
            rw [hwA] at hb5 hk5 hg5 hz5 hza
            have EA := Lib.hid (show Below ws.heap.size ws wA by rw [← hwA]; exact below_size.alloc (Nat.le_refl _) _)
            have hzA : ws.heap.size ≤ wA.heap.size := EA.out.size
            have hzw : w2.heap.size ≤ ws.heap.size := by have := HZS.out; omega
            have R5 := Lib.hid ((RS.out.keep EA.out).push (t := t2) (((WTS.out.below EA.out).wider (by omega) (by omega))) (fun ad a had ha h0 => by
              obtain ⟨a', ea', h1, h2, _⟩ := WTS.out.2 h0
              rw [ha] at ea'; injection ea' with ea'; subst ea'
              have := hOb.out ad had; omega) (by rw [show hdI t2 = .slice t2.A 4 t2.c by rw [hdI, HN4.out]]; exact own5) hk5 (hg5.imp id (fun h => by omega)) hz5)
            have hOB : ∀ ad', O' = some ad' → w.heap.size + 1 ≤ ad'.block := fun ad' ha => (RS.out.own.block ha).1
            have S5 := Lib.hid (show Wr w5 w.heap.size (w.heap.size + 1) (some ⟨w.heap.size, 0, none⟩) kz ((seenL (keyN st sy sr) kz (l' ++ [z])).map Value.bool) from
              (SS.out.below EA.out).move (fun ad _ e => by injection e with e; subst e; exact hk5 _ (by show w.heap.size < _; omega) (fun ad' ha => by have := hOB ad' ha; show ad'.block ≠ w.heap.size; omega)) hz5 (Nat.le_refl _))
            have W5 := Lib.hid ((WS.out.stay (w' := wA) (fun b _ _ h3 => EA.out.block b h3) hzA).stay (w' := w5) (fun b h1 h2 h3 => hk5 b h3 (fun ad' ha => by have := hOb.out ad' ha; omega)) hz5)
            have OB5 := Lib.hid (show ∀ a : Addr, some (⟨g', 0, none⟩ : Addr) = some a → a.block < wo.heap.size ∨ w2.heap.size ≤ a.block from fun a ha => by
              injection ha with ha; subst ha
              rcases hg5 with hg5 | hg5
              · exact hOb.out _ hg5
              · right; show _ ≤ g'; omega)
            have B5 := Lib.hid ((BS.out.trans (EA.out.mono (by omega))).trans (hb5.mono (by omega)))
            have hzz : w2.heap.size ≤ w5.heap.size := by omega
            have hz1w : w.heap.size + 1 ≤ w5.heap.size := by omega
            clear own5 hb5 hk5 hg5 hwA hws hc3 hOB
            go_wp2_with fail
            go_roundw
            case rel =>
              refine ⟨k + 1, m' + 1, some ⟨g', 0, none⟩, cap, its' ++ [t2], l' ++ [z], by omega, by omega, by go_num, rfl, HL3.out.symm, by unfold Hid; rw [List.map_append, List.map_append, hx'.out, List.map_singleton, HE2.out]; rfl, by unfold Hid; rw [List.length_append, hlm'.out]; rfl, fun y hy => ?_, R5.out, S5.out, W5.out, OB5.out, B5.out, hzz⟩
              rcases List.mem_append.1 hy with hy | hy
              · exact hok'.out y hy
              · rw [List.mem_singleton] at hy; subst hy; exact HZO.out
            case measure => simp [intOf]; omega
          · have HL3 := Lib.hid (show (Y.take (k + 1)).foldl addN l = l' by rw [HL2.out, addN, if_pos (of_decide_eq_true HQ.out)])
            go_wp2_with fail
            go_roundw
            case rel => exact ⟨k + 1, m', O', oc', its', l', by omega, by omega, by go_num, rfl, HL3.out.symm, hx'.out, hlm'.out, hok'.out, RK.out, SK.out, WK.out, hOb.out, BK.out, by omega⟩
            case measure => simp [intOf]; omega
        · have HF := Lib.hid (show l' = Y.foldl addN l by rw [hl'.out, List.take_of_length_le (by rw [HNY.out]; omega)])
          clear hb
          by_cases hbig : 3000 < m'
          · have HN := Lib.hid (show o = none by rw [← hgo.out, show 3001 - i = (3000 - i) + 1 by omega]; exact clGo_full HX.out (by rw [HY.out, ← HF.out, hlm'.out]; exact hbig))
            have kb : decide ((3000 : Int) < (m' : Int)) = true := decide_eq_true (by omega)
            go_wp2_with fail
            go_ret2
            rw [HN.out]
            exact ⟨none, 0, 0, [], rfl, WrS.one (A := none) (n := 0) (vs := []) Wr.nil, by omega, by simp, rfl, HB'.out⟩
          · have HN := Lib.hid (show clGo rs sy xl xr (3001 - (i + 1)) (i + 1) l' = o by
              rw [← hgo.out, show 3001 - i = (3000 - i) + 1 by omega, clGo_on HX.out (by rw [HY.out, ← HF.out, hlm'.out]; exact hbig), HY.out, ← HF.out, show 3001 - (i + 1) = 3000 - i by omega])
            have kb : decide ((3000 : Int) < (m' : Int)) = false := decide_eq_false (by omega)
            have hmm := Lib.hid (show m ≤ m' by have := (fold_len Y l).1; rw [← HF.out, hlm'.out, hlm.out] at this; exact this)
            go_wp2_with fail
            go_roundw
            case rel => exact ⟨i + 1, m', O', oc', its', l', by have := hmm.out; omega, by omega, by go_num, rfl, hx'.out, hlm'.out, HN.out, hok'.out, hO'.out, hS'.out, HB'.out, by omega⟩
            case measure => simp [intOf]; omega
    · have HOL := Lib.hid (show o = some l by rw [← hgo.out, show 3001 - i = (3000 - i) + 1 by omega]; exact clGo_end (by rw [hlm.out]; omega))
      have hst1 : wr.heap.size ≤ wr.heap.size := Nat.le_refl _
      clear hb hst1
      go_wp2_with fail
      obtain ⟨wo, rfl⟩ : ∃ wo : World, wo = wr := ⟨_, rfl⟩
      have hst0 : 0 < st := by omega
      go_loopw [14, 15] (fun uv kv wy => ∃ (k q : Nat) (O' : Option Addr) (oc' : Nat) (its' : List It), k ≤ kz ∧ q ≤ k ∧ kv = .int .i64 k ∧ uv = .slice O' q oc' ∧ Hid (its'.length = q) ∧ Hid (its'.map It.xs = (sortN st sy sr l k).map ndL) ∧ Hid (∀ t ∈ its', t.n = 4) ∧
        Hid (OwnS wy wo.heap.size 25 1 O' q oc' (its'.map hdI) (its'.map bodyI)) ∧ Below wo.heap.size wo wy) (fun _ kv _ => kz - (intOf kv).toNat)
      case atStart => exact ⟨0, 0, _, _, [], by omega, by omega, rfl, rfl, rfl, by simp [Hid, sortN], by simp [Hid], OwnS.nil (Own.litK (Nat.le_refl _)), below_size.alloc (Nat.le_refl _) _⟩
      case round =>
        obtain ⟨k, q, O', oc', its', hk, hqk, rfl, rfl, hql, hx', h4, hO', hb⟩ := hrel
        have HB' := Lib.hid hb
        have hwz := hb.size
        by_cases hkz : k < kz
        · obtain ⟨_, sv, es, _, _, _, hsv, hsc, _⟩ := (hS.out.below hb).at_ hkz
          injection es with es; subst es
          rw [List.getElem?_map, seenL_at _ _ hkz, Option.map_some] at hsv
          injection hsv with hsv; subst hsv
          rw [head_add] at hsc
          have HSR := Lib.hid (sortN_succ (st := st) (sy := sy) (sr := sr) (l := l) (k := k))
          obtain ⟨p, hp⟩ : ∃ p, decide (((k : Nat) : Int) ∈ l.map (keyN st sy sr)) = p := ⟨_, rfl⟩
          have HP := Lib.hid hp
          rw [hp] at hsc
          have mm := H.out.below HB.out |>.below hb
          have rr := HR.out.below HB.out |>.below hb
          have m0 := mm.c0; have m1 := mm.c1; have r0 := rr.c0
          clear hb hp mm rr
          cases p
          · have HS2 := Lib.hid (show sortN st sy sr l (k + 1) = sortN st sy sr l k by rw [HSR.out, if_neg (of_decide_eq_false HP.out)])
            go_wp2_with fail
            go_roundw
            case rel => exact ⟨k + 1, q, O', oc', its', by omega, by omega, by go_num, rfl, hql.out, by unfold Hid; rw [HS2.out]; exact hx'.out, h4.out, hO'.out, HB'.out⟩
            case measure => simp [intOf]; omega
          · have HS2 := Lib.hid (show sortN st sy sr l (k + 1) = sortN st sy sr l k ++ [decN st sy sr k] by rw [HSR.out, if_pos (of_decide_eq_true HP.out)])
            have b1 : 0 ≤ (k : Int) / sr ∧ (k : Int) / sr ≤ 2400000 := ⟨Int.ediv_nonneg (by omega) (by omega), by have := Int.ediv_le_self sr (show (0 : Int) ≤ k by omega); omega⟩
            have b2 : 0 ≤ (k : Int) / sr / sy ∧ (k : Int) / sr / sy ≤ 2400000 := ⟨Int.ediv_nonneg b1.1 (by omega), by have := Int.ediv_le_self sy b1.1; omega⟩
            have b3 : 0 ≤ (k : Int) / sr / sy / st ∧ (k : Int) / sr / sy / st ≤ 2400000 := ⟨Int.ediv_nonneg b2.1 (by omega), by have := Int.ediv_le_self st b2.1; omega⟩
            have v1 : wrap64 ((k : Int) / sr) = (k : Int) / sr := by unfold wrap64; omega
            have v2 : wrap64 ((k : Int) / sr / sy) = (k : Int) / sr / sy := by unfold wrap64; omega
            have v3 : wrap64 ((k : Int) / sr / sy / st) = (k : Int) / sr / sy / st := by unfold wrap64; omega
            have t1 : ((k : Int) / sr).tdiv sy = (k : Int) / sr / sy := Int.tdiv_eq_ediv_of_nonneg b1.1
            have t2 : ((k : Int) / sr / sy).tdiv st = (k : Int) / sr / sy / st := Int.tdiv_eq_ediv_of_nonneg b2.1
            have t3 : ((k : Int) / sr / sy).tmod st = (k : Int) / sr / sy % st := Int.tmod_eq_emod_of_nonneg b2.1
            have t4 : ((k : Int) / sr).tmod sy = (k : Int) / sr % sy := Int.tmod_eq_emod_of_nonneg b1.1
            have y0 := Ext.cell m0; have y1 := Ext.cell m1; have y2 := Ext.cell r0
            clear b1 b2 b3
            go_wp2_with fail
            refine Mix.wp_region_mix [0, 0, 0, 0, 0, 3, 0, 0, 0, 0, 0, 3, 0, 0, 0, 0, 0, 3, 0, 0, 0, 0, 0, 3, 0, 1, 1, 2, 0] (fun w' => ∃ x : Ext wr, w' = x.w) (by kernel_rfl) (by kernel_rfl) (InExt.drew _) ?_
            repeat (first | (refine Mix.wpMix_read (by rfl) ?_; go_big_quiet_step (fail); refine wpQuiet_nil ?_) | (refine Mix.wpMix_pure (by rfl) ?_; go_big_quiet_step (fail); refine wpQuiet_nil ?_))
            refine Mix.wpMix_chg (by rfl) (fun K hK => ?_)
            go_wp2_with fail
            refine hK _ _ ⟨⟨_, below_drew (below_size.alloc (Nat.le_refl _) _)⟩, rfl⟩ ?_
            clear hK K
            repeat (first | (refine Mix.wpMix_read (by rfl) ?_; go_big_quiet_step (fail); refine wpQuiet_nil ?_) | (refine Mix.wpMix_pure (by rfl) ?_; go_big_quiet_step (fail); refine wpQuiet_nil ?_))
            refine Mix.wpMix_chg (by rfl) (fun K hK => ?_)
            go_wp2_with fail
            refine hK _ _ ⟨⟨_, below_drew ((below_size.alloc (Nat.le_refl _) _).alloc (by simp) _)⟩, rfl⟩ ?_
            clear hK K v1 v2 v3 t1 t2 t3 t4
            obtain ⟨wa, hwa⟩ : ∃ wa, ((wr.alloc (.cells #[i64 ((k : Int) / sr / sy / st), i64 ((k : Int) / sr / sy % st), i64 ((k : Int) / sr % sy), i64 ((k : Int) % sr)] 2)).alloc (.cells #[.slice (some ⟨wr.heap.size, 0, none⟩) 4 4] 25)).drew = wa := ⟨_, rfl⟩
            rw [hwa]
            have EA := Lib.hid (show Below wr.heap.size wr wa by rw [← hwa]; exact below_drew ((below_size.alloc (Nat.le_refl _) _).alloc (by simp) _))
            have WA := Lib.hid (show Wr wa wr.heap.size wa.heap.size (some ⟨wr.heap.size, 0, none⟩) 4 ((ndL (decN st sy sr k)).map i64) by
              rw [← hwa]; exact (((Blk.new wr 2 #[i64 ((k : Int) / sr / sy / st), i64 ((k : Int) / sr / sy % st), i64 ((k : Int) / sr % sy), i64 ((k : Int) % sr)]).alloc _).drew).wr (Nat.le_refl _) (by simp; omega) rfl (by simp))
            have CA : wa.cell? ⟨wr.heap.size + 1, 0, none⟩ = some (.slice (some ⟨wr.heap.size, 0, none⟩) 4 4) := by
              rw [← hwa]; have := new_cell (wr.alloc (.cells #[i64 ((k : Int) / sr / sy / st), i64 ((k : Int) / sr / sy % st), i64 ((k : Int) / sr % sy), i64 ((k : Int) % sr)] 2)) #[.slice (some ⟨wr.heap.size, 0, none⟩) 4 4] 25 0; rw [World.size_alloc] at this; exact this
            have hz2 : wo.heap.size ≤ wa.heap.size := by have := EA.out.size; omega
            have OA := Lib.hid (hO'.out.keep EA.out)
            clear hwa
            refine Mix.wpMix_tail (by rfl) (fun K hK => ?_)
            refine wp_app1 (by rfl) _ _ 27 25 (.slice none 0 0) 24 (by rfl) Try.underlying27 info_I64S rfl wo.heap.size O' q oc' (its'.map hdI) (by rfl) (by exact OA.out.own) (wr.heap.size + 1) (.slice (some ⟨wr.heap.size, 0, none⟩) 4 4) (by rfl) CA rfl (by omega) (by omega) hz2 ?_
            intro g' cap w5 own3 hb3 hk3 hg3 hz3
            have O5 := Lib.hid (hO'.out.push (s := sgI (some ⟨wr.heap.size, 0, none⟩) 4 (ndL (decN st sy sr k))) (by omega) EA.out WA.out own3 hk3 hg3 hz3)
            have B5 := Lib.hid (HB'.out.trans ((EA.out.mono hwz).trans hb3))
            clear own3 hb3 hk3 hg3 CA
            go_wp2_with fail
            refine hK _ _ ?_
            clear hK K
            repeat (first | (refine Mix.wpMix_read (by rfl) ?_; go_big_quiet_step (fail); refine wpQuiet_nil ?_) | (refine Mix.wpMix_pure (by rfl) ?_; go_big_quiet_step (fail); refine wpQuiet_nil ?_))
            (refine Mix.wpMix_nil ?_; try simp only [Exit.then])
            go_wp2_with fail
            go_roundw
            case rel =>
              refine ⟨k + 1, q + 1, some ⟨g', 0, none⟩, cap, its' ++ [⟨some ⟨wr.heap.size, 0, none⟩, 4, 4, ndL (decN st sy sr k)⟩], by omega, by omega, by go_num, rfl, by unfold Hid; rw [List.length_append, hql.out]; rfl, by unfold Hid; rw [HS2.out, List.map_append, List.map_append, hx'.out]; rfl, ?_, O5.out.snocII, B5.out⟩
              intro t ht
              rcases List.mem_append.1 ht with ht | ht
              · exact h4.out t ht
              · rw [List.mem_singleton] at ht; subst ht; rfl
            case measure => simp [intOf]; omega
        · obtain rfl : k = kz := by omega
          clear hb
          go_wp2_with fail
          go_ret2
          rw [HOL.out]
          exact ⟨O', q, oc', its', rfl, hO'.out.wrII.wider (by omega) (Nat.le_refl _), by omega, h4.out, hx'.out, HB.out.trans (HB'.out.mono (by omega))⟩
end Go.Proofs.Ytmmgejnhfpfmnaa
