/-
  Contracts of chapter 23: the program with one variable, of the reference.
-/
import Derived.Test.YtecpbgmcednpoaaPOv
import Derived.Test.YtecpbgmcednpoaaMixF
import Derived.Test.YtecpbgmcednpoaaMixB
import Derived.Deep.DeepCutAuto
namespace Go.Proofs.Ytecpbgmcednpoaa
open Go.RowKit

theorem OwnS.widen' {w : World} {B B' : Nat} {e : TypeId} {size n c : Nat} {A : Option Addr} {vs : List Value} {ss : List Seg} (h : OwnS w B e size A n c vs ss) (hB : B' ≤ B) : OwnS w B' e size A n c vs ss := ⟨h.own.widen hB, h.wrs.wider hB (Nat.le_refl _), h.ne⟩
theorem below_keep {B C : Nat} {w w' : World} {P : Option Addr} (hb : Below B w w') (hk : ∀ b, b < w.heap.size → (∀ ad', P = some ad' → ad'.block ≠ b) → w'.heap[b]? = w.heap[b]?) (hP : ∀ p, P = some p → C ≤ p.block) (hC : C ≤ w.heap.size) : Below C w w' :=
  ⟨hb.os, hb.tape, hb.output, hb.size, fun k hk' => hk k (by omega) fun ad' e => by have := hP ad' e; omega⟩
/-- one command, laid -/
theorem OwnS.one {w : World} {B : Nat} {e : TypeId} {t : Ct} (hB : B ≤ w.heap.size) (hw : Wr w B w.heap.size t.A (t.n * 2) (t.xs.flatMap enc2)) : OwnS (w.alloc (.cells #[i64 t.kd, i64 t.vr, i64 t.ln, .slice t.A t.n t.c] e)) B e 4 (some ⟨w.heap.size, 0, none⟩) 1 1 ([t].flatMap hdC) ([t].map bodyC) := by
  refine ⟨Own.fullK hB rfl rfl (by omega), WrS.one ((hw.alloc _).wider (Nat.le_refl _) (by simp)), fun s hs ad a had ha hn => ?_⟩
  rw [List.map_singleton, List.mem_singleton] at hs; subst hs
  injection had with had; subst had
  obtain ⟨a', e', _, h2, _⟩ := hw.2 hn
  have : some a = some a' := ha.symm.trans e'
  injection this with this; subst this
  show a.block ≠ w.heap.size; omega
/-- a command that is laid in a block of its own, its value in others -/
def OneCut (t : TypeId) (kd ln : Int) (F : List (Int × Int)) (w1 : World) (v : Value) (wx : World) : Prop :=
  ∃ g A m c, v = .pointer (some ⟨g, 0, none⟩) ∧ Blk wx g t #[i64 kd, i64 0, i64 ln, .slice A m c] ∧ w1.heap.size ≤ g ∧ Wr wx w1.heap.size wx.heap.size A (m * 2) (F.flatMap enc2) ∧ m ≤ c ∧ Below w1.heap.size w1 wx
def flatL (ls : List (List (Int × Int))) : List (List Value) := ls.map (·.flatMap enc2)
/-- a list of expressions that grows -/
def PartsL (ls : List (List (Int × Int))) (k : Nat) (rs : List ItV) : Prop := rs.map ItV.vs = flatL (ls.take k) ∧ ∀ t ∈ rs, t.n ≤ 1000
theorem PartsL.push {ls : List (List (Int × Int))} {k : Nat} {rs : List ItV} {x : List (Int × Int)} {A : Option Addr} {n c : Nat} (h : PartsL ls k rs) (hx : ls[k]? = some x) (hn : n ≤ 1000) : PartsL ls (k + 1) (rs ++ [⟨A, n, c, x.flatMap enc2⟩]) := by
  refine ⟨by rw [List.map_append, h.1, take_at hx]; simp [flatL], fun t ht => ?_⟩
  rcases List.mem_append.1 ht with ht | ht
  · exact h.2 t ht
  · rw [List.mem_singleton] at ht; subst ht; exact hn
theorem PartsL.one {ls : List (List (Int × Int))} {k : Nat} {rs : List ItV} (h : PartsL ls k rs) : ∀ t ∈ rs, ∀ u ∈ t.vs, u.oneCell' = true := by
  intro t ht u hu
  have h1 : t.vs ∈ flatL (ls.take k) := by rw [← h.1]; exact List.mem_map_of_mem ht
  obtain ⟨x, _, hx⟩ := List.mem_map.1 h1
  rw [← hx] at hu
  exact one_pairs x u hu
theorem startP_at {n k : Nat} (h : k < n) (h1 : 1 ≤ k) : (startP n)[k]? = some [((0 : Int), (0 : Int))] := by
  unfold startP
  rw [List.getElem?_map, List.getElem?_range h]
  simp; omega
theorem startP_zero {n : Nat} (h : 0 < n) : (startP n)[0]? = some [((1 : Int), (0 : Int))] := by
  unfold startP
  rw [List.getElem?_map, List.getElem?_range h]; rfl
theorem startP_len (n : Nat) : (startP n).length = n := by simp [startP]
set_option maxHeartbeats 8000000 in
set_option maxRecDepth 100000 in
theorem l23One_c (A : Option Addr) (n c : Nat) (ps : List Ct) (D : List Cmd) (w : World) (h : RdS w (sgCS A n ps)) (hD : ps.map datC = D) (hv : validW D = true) :
    Calls Try.prog 42 #[.slice A n c] w fun e w' => ∃ (A' : Option Addr) (n' c' : Nat) (js : List Ct), e = .returned (.slice A' n' c') ∧ OwnS w' w.heap.size 46 4 A' n' c' (js.flatMap hdC) (js.map bodyC) ∧ js.map datC = oneD D ∧ (∀ t ∈ js, t.n ≤ 1000000) ∧ n' ≤ 90 ∧ Below w.heap.size w w' := by
  have hl := RdCS.len h
  obtain ⟨hv1, hv2⟩ := validW_all hv
  have hn80 : n ≤ 80 := by rw [← hl, ← List.length_map (f := datC), hD]; exact hv1
  obtain ⟨T, hT⟩ : ∃ T, topW D = T := ⟨_, rfl⟩
  have hTb := topW_bd hv
  rw [hT] at hTb
  have hvz := vcL_zero _ D (Nat.le_refl _) (by simp only [validW, Bool.and_eq_true] at hv; exact hv.2)
  have HD := Lib.hid hD; have HV2 := Lib.hid hv2; have HV := Lib.hid hv; have HT := Lib.hid hT; have HVZ := Lib.hid hvz
  have HDL := Lib.hid (show D.length = n by rw [← hD, List.length_map, hl])
  have hi40 : ∀ t ∈ ps, t.n ≤ 40 := fun t ht => by
    have h1 : Rd2 w t.A t.n t.xs := h.tail (bodyC t) (List.mem_map_of_mem ht)
    obtain ⟨e1, _, _⟩ := hv2 (datC t) (by rw [← hD]; exact List.mem_map_of_mem ht)
    have h2 := (validE_end e1).2.2.1
    have h3 : t.xs.length = t.n := h1.len
    have h4 : t.xs.length ≤ 40 := h2
    omega
  have HI := Lib.hid hi40
  have H := Lib.hid h
  clear hl hv hv1 hv2 hD hT h hvz hi40
  go_enter Try.func42, Try.ntmps42
  go_wp2_with fail
  refine (l23Many_c A n c ps D T w H.out HD.out HV.out HT.out).mono ?_
  rintro e w1 ⟨rfl, hb1⟩
  have B1 := Lib.hid hb1
  have hz1 := hb1.size
  clear hb1
  by_cases hT1 : T ≤ 1
  · have g1 : decide (T ≤ 1) = true := by rw [decide_eq_true_eq]; exact hT1
    have HO := Lib.hid (show oneD D = D by rw [oneD, HT.out, if_pos hT1])
    go_wp2_with fail
    refine (l22Own_c A n c ps D w1 (H.out.below B1.out) (by omega) (fun t ht => Nat.le_trans (HI.out t ht) (by omega)) HD.out).mono ?_
    rintro e w3 ⟨A3, c3, js, rfl, ⟨hO, hj⟩, hj1, hb3⟩
    have O3 := Lib.hid (hO.widen' hz1); have J3 := Lib.hid hj; have I3 := Lib.hid hj1; have B3 := Lib.hid (below_chain B1.out hz1 hb3)
    clear hO hj hj1 hb3
    go_wp2_with fail
    go_ret
    exact ⟨A3, n, c3, js, rfl, O3.out, by rw [HO.out]; exact J3.out, I3.out, by omega, B3.out⟩
  have g1 : decide (T ≤ 1) = false := by rw [decide_eq_false_iff_not]; exact hT1
  obtain ⟨N, rfl⟩ : ∃ N : Nat, T = N := ⟨T.toNat, by omega⟩
  have hN2 : 2 ≤ N := by omega
  have hN6 : N ≤ 6 := by omega
  have HO := Lib.hid (show oneD D = oneP N D by rw [oneD, HT.out, if_neg hT1, Int.toNat_natCast])
  obtain ⟨wa, hwa⟩ : ∃ wa, w1.alloc (.cells #[.int .i64 1, .int .i64 0] 49) = wa := ⟨_, rfl⟩
  have Ea := Lib.hid (show Below w1.heap.size w1 wa by rw [← hwa]; exact below_size.alloc (Nat.le_refl _) _)
  have hza := Ea.out.size
  have Ra := Lib.hid (show Rd wa (some ⟨w1.heap.size, 0, none⟩) (1 * 2) ([((1 : Int), (0 : Int))].flatMap enc2) by rw [← hwa]; exact (rd_newE [(1, 0)] _ rfl rfl : Rd2 _ _ 1 _))
  have hal : w1.heap.size < wa.heap.size := Ra.out.blocks _ (by omega) rfl
  have OL := Lib.hid (show OwnP (wa.alloc (.cells #[.slice (some ⟨w1.heap.size, 0, none⟩) 1 1] 44)) w.heap.size 44 (some ⟨wa.heap.size, 0, none⟩) 1 1 [⟨some ⟨w1.heap.size, 0, none⟩, 1, 1, [((1 : Int), (0 : Int))].flatMap enc2⟩] none 0 [] from
    ⟨Own.fullK (Nat.le_trans hz1 hza) rfl rfl (by omega), fun t ht => by rw [List.mem_singleton] at ht; subst ht; exact Ra.out.alloc _,
      fun t ht a p ha hp _ => by rw [List.mem_singleton] at ht; subst ht; injection ha with ha; subst ha; injection hp with hp; subst hp; show w1.heap.size ≠ wa.heap.size; omega,
      fun t ht a ha => by rw [List.mem_singleton] at ht; subst ht; injection ha with ha; subst ha; exact hz1, Rd.nil, fun a p ha => by cases ha⟩)
  have PL := Lib.hid (show PartsL (startP N) 1 [⟨some ⟨w1.heap.size, 0, none⟩, 1, 1, [((1 : Int), (0 : Int))].flatMap enc2⟩] from by
    refine ⟨by rw [take_at (startP_zero (by omega))]; rfl, fun t ht => by rw [List.mem_singleton] at ht; subst ht; show 1 ≤ 1000; omega⟩)
  have BL := Lib.hid ((below_chain B1.out hz1 Ea.out).alloc (Nat.le_trans hz1 hza) (.cells #[.slice (some ⟨w1.heap.size, 0, none⟩) 1 1] 44))
  clear Ra
  go_wp2_with fail
  go_loopw [4, 5] (fun pv kv wr => ∃ (k pc : Nat) (P : Option Addr) (rs : List ItV), 1 ≤ k ∧ k ≤ N ∧ kv = .int .i64 k ∧ pv = .slice P k pc ∧ Hid (PartsL (startP N) k rs) ∧ Hid (OwnP wr w.heap.size 44 P k pc rs none 0 []) ∧ Below w.heap.size w wr) (fun _ kv _ => N - (intOf kv).toNat)
  case atStart => exact ⟨1, 1, _, _, by omega, by omega, rfl, rfl, PL.out, OL.out, BL.out⟩
  case round =>
    obtain ⟨k, pc, P, rs, hk1, hkN, rfl, rfl, hpl, hO, hb⟩ := hrel
    have HB := Lib.hid hb
    have hzr := hb.size
    clear hb
    by_cases hlt : k < N
    · obtain ⟨wb, hwb⟩ : ∃ wb, wr.alloc (.cells #[.int .i64 0, .int .i64 0] 49) = wb := ⟨_, rfl⟩
      have Eb := Lib.hid (show Below wr.heap.size wr wb by rw [← hwb]; exact below_size.alloc (Nat.le_refl _) _)
      have hzb := Eb.out.size
      have Rb := Lib.hid (show Rd wb (some ⟨wr.heap.size, 0, none⟩) (1 * 2) ([((0 : Int), (0 : Int))].flatMap enc2) by rw [← hwb]; exact (rd_newE [(0, 0)] _ rfl rfl : Rd2 _ _ 1 _))
      go_wp2_with (at_builtin; refine wp_app1 (by rfl) _ _ 68 44 (.slice none 0 0) 24 (by rfl) Try.underlying68 info_sE rfl w.heap.size P k pc (rs.map hdV) (by rfl) (by exact (hO.out.own.keep Eb.out).alloc _) wb.heap.size (.slice (some ⟨wr.heap.size, 0, none⟩) 1 1) (by rfl) (by exact new_cell _ _ _ 0) rfl (by omega) (by omega) (by simp; omega) ?_; intro g6 c6 w6 own6 hb6 hk6 hg6 hz6)
      have O6 := Lib.hid (hO.out.push (t := ⟨some ⟨wr.heap.size, 0, none⟩, 1, 1, [((0 : Int), (0 : Int))].flatMap enc2⟩) hzr (Eb.out.alloc hzb _) (Rb.out.alloc _) (fun a ha => by injection ha with ha; subst ha; exact Nat.le_refl _) own6 hk6 hg6 hz6)
      have B6 := Lib.hid ((below_chain HB.out hzr (Eb.out.alloc hzb _)).trans hb6)
      have PL6 := Lib.hid (hpl.out.push (A := some ⟨wr.heap.size, 0, none⟩) (n := 1) (c := 1) (startP_at hlt hk1) (by omega))
      clear own6 hb6 hk6 hg6 hz6
      go_roundw
      case rel => exact ⟨k + 1, c6, some ⟨g6, 0, none⟩, _, by omega, by omega, by go_num, rfl, PL6.out, O6.out, B6.out⟩
      case measure => simp [intOf]; omega
    · obtain rfl : k = N := by omega
      have HFL := Lib.hid (show rs.map ItV.vs = (startP k).map (·.flatMap enc2) by have := hpl.out.1; rwa [List.take_of_length_le (by rw [startP_len]; exact Nat.le_refl _)] at this)
      go_wp2_with fail
      refine (l23Packed_c P k pc rs (startP k) wr (hO.out.rdV hpl.out.one) HFL.out (by omega) hpl.out.2).mono ?_
      rintro e w5 ⟨A5, m5, c5, rfl, hw5, hc5, hb5⟩
      have E5 := Lib.hid (below_chain HB.out hzr hb5); have W5 := Lib.hid hw5
      have hm5 := wr_len2 hw5
      have hz5 := E5.out.size
      have hz5' := hb5.size
      clear hw5 hb5
      go_wp2_with (go_at_call 61; refine (l22Set_c 0 A5 m5 c5 w5).mono ?_; rintro e w6 ⟨rfl, hb6⟩)
      have E6 := Lib.hid (below_chain E5.out hz5 hb6)
      have hz6 := E6.out.size
      have hp5 := packedP_len (startP k)
      have OO := Lib.hid (OwnS.one (w := w6) (e := 46) (t := ⟨0, 0, 0, A5, m5, c5, packedP (startP k)⟩) hz6 ((W5.out.below hb6).wider hzr hb6.size))
      have BO := Lib.hid (E6.out.alloc hz6 (.cells #[i64 0, i64 0, i64 0, .slice A5 m5 c5] 46))
      obtain ⟨X0, hX0⟩ : ∃ X0, packedP (startP k) = X0 := ⟨_, rfl⟩
      rw [hX0] at OO hm5 hp5
      have HX0 := Lib.hid hX0
      have hm500 : m5 ≤ 1000000 := by
        have h1 := startP_len k
        have h2 : sumL (startP k) ≤ 10 := by
          unfold sumL startP
          rw [List.map_map]
          have : ∀ l : List Nat, (l.map (List.length ∘ fun j => [((if j = 0 then (1 : Int) else 0), (0 : Int))])).sum = l.length := fun l => by induction l with | nil => rfl | cons x l ih => simp [ih]; omega
          rw [this, List.length_range]; omega
        omega
      clear hX0
      go_loopw [6, 7] (fun ov iv wr => ∃ (i cc : Nat) (O : Option Addr) (js : List Ct), i ≤ n ∧ iv = .int .i64 i ∧ ov = .slice O (i + 1) cc ∧ Hid (OwnS wr w.heap.size 46 4 O (i + 1) cc (js.flatMap hdC) (js.map bodyC)) ∧ Hid (js.map datC = (0, 0, 0, X0) :: (D.take i).map (oneC k)) ∧ Hid (∀ t ∈ js, t.n ≤ 1000000) ∧ Below w.heap.size w wr) (fun _ iv _ => n - (intOf iv).toNat)
      case atStart => exact ⟨0, 1, some ⟨w6.heap.size, 0, none⟩, [⟨0, 0, 0, A5, m5, c5, X0⟩], by omega, rfl, rfl, OO.out, rfl, (fun t ht => by rw [List.mem_singleton] at ht; subst ht; exact hm500), BO.out⟩
      case round =>
        clear OO BO E6 E5 W5 hO hpl HFL
        obtain ⟨i, cc, O, js, hin, rfl, rfl, hO, hj, hj1, hb⟩ := hrel
        obtain ⟨wo, rfl⟩ : ∃ wo : World, wo = wr := ⟨_, rfl⟩
        have HB := Lib.hid hb
        have hzr := hb.size
        by_cases hlt : i < n
        · obtain ⟨ad, t, rfl, hab, ht, hc0, hc1, hc2, hc3, hrd⟩ := RdCS.at_ (H.out.below hb) hlt
          have hx : D[i]? = some (datC t) := by rw [← HD.out, List.getElem?_map, ht]; rfl
          obtain ⟨e1, e2, e3⟩ := HV2.out (datC t) (List.mem_of_getElem? hx)
          have hez := HVZ.out (datC t) (List.mem_of_getElem? hx)
          have hrx : Rd2 wo t.A t.n t.xs := hrd.head
          obtain ⟨kd, vr, ln, xA, xn, xc, xs⟩ := t
          simp only [datC] at hx e1 e2 e3 hez
          simp only at hc0 hc1 hc2 hc3 hrx
          have hvb := inB_t e3
          obtain ⟨v, rfl⟩ : ∃ v : Nat, vr = v := ⟨vr.toNat, by omega⟩
          have hv6 : v ≤ 5 := by omega
          have HX4 := Lib.hid (validE_end e1).2.2.2
          have hx40 := (validE_end e1).2.2.1
          have hx1 : 1 ≤ xs.length := (validE_end e1).2.1
          have hxn40 : xn ≤ 40 := by rw [← hrx.len]; exact hx40
          have HX5 := Lib.hid (show ∀ y ∈ xs, y.1 = 1 → y.2 ≤ 5 from fun y hy _ => (okE_bd (List.all_eq_true.1 HX4.out y hy)).2)
          have RX := Lib.hid hrx
          have HTK := Lib.hid (take_at hx)
          obtain ⟨F, hF⟩ : ∃ F, movedP xs k = F := ⟨_, rfl⟩
          have HF := Lib.hid hF
          have HC1 := Lib.hid hc1
          clear hb ht hx hrd hrx e1 e3 hF
          go_wp2_with fail
          go_cut [8] (fun v wx => OneCut 46 kd ln F wo v wx)
          case first =>
            have x0 := Ext.cell hc0; have x2 := Ext.cell hc2; have x3 := Ext.cell hc3
            refine Mix.wp_region_mixF 18 [0, 0, 0, 0, 3, 0, 0, 0, 0, 3, 0, 0, 0, 0, 3, 0, 1, 0, 1, 2] (fun w' => ∃ x : Ext wo, w' = x.w) (by kernel_rfl) (by kernel_rfl) (InExt.drew _) _ _ (by rfl) ?_
            simp only [List.take_succ_cons, List.take_zero, List.drop_succ_cons, List.drop_zero]
            refine Mix.wpF_0 ?_
            (refine Mix.wpMix_pure (by rfl) ?_; go_big_quiet_step (fail); refine wpQuiet_nil ?_)
            refine Mix.wpMix_nil ?_
            refine Mix.wpF_0 ?_
            (refine Mix.wpMix_pure (by rfl) ?_; go_big_quiet_step (fail); refine wpQuiet_nil ?_)
            refine Mix.wpMix_nil ?_
            refine Mix.wpF_0 ?_
            (refine Mix.wpMix_pure (by rfl) ?_; go_big_quiet_step (fail); refine wpQuiet_nil ?_)
            refine Mix.wpMix_nil ?_
            refine Mix.wpF_0 ?_
            (refine Mix.wpMix_pure (by rfl) ?_; go_big_quiet_step (fail); refine wpQuiet_nil ?_)
            refine Mix.wpMix_nil ?_
            refine Mix.wpF_3 ?_
            (refine Mix.wpMix_read (by rfl) ?_; go_big_quiet_step (fail); refine wpQuiet_nil ?_)
            refine Mix.wpMix_nil ?_
            refine Mix.wpF_0 ?_
            (refine Mix.wpMix_pure (by rfl) ?_; go_big_quiet_step (fail); refine wpQuiet_nil ?_)
            refine Mix.wpMix_nil ?_
            refine Mix.wpF_0 ?_
            (refine Mix.wpMix_pure (by rfl) ?_; go_big_quiet_step (fail); refine wpQuiet_nil ?_)
            refine Mix.wpMix_nil ?_
            refine Mix.wpF_0 ?_
            (refine Mix.wpMix_pure (by rfl) ?_; go_big_quiet_step (fail); refine wpQuiet_nil ?_)
            refine Mix.wpMix_nil ?_
            refine Mix.wpF_0 ?_
            (refine Mix.wpMix_pure (by rfl) ?_; go_big_quiet_step (fail); refine wpQuiet_nil ?_)
            refine Mix.wpMix_nil ?_
            refine Mix.wpF_3 ?_
            (refine Mix.wpMix_read (by rfl) ?_; go_big_quiet_step (fail); refine wpQuiet_nil ?_)
            refine Mix.wpMix_nil ?_
            refine Mix.wpF_0 ?_
            (refine Mix.wpMix_pure (by rfl) ?_; go_big_quiet_step (fail); refine wpQuiet_nil ?_)
            refine Mix.wpMix_nil ?_
            refine Mix.wpF_0 ?_
            (refine Mix.wpMix_pure (by rfl) ?_; go_big_quiet_step (fail); refine wpQuiet_nil ?_)
            refine Mix.wpMix_nil ?_
            refine Mix.wpF_0 ?_
            (refine Mix.wpMix_pure (by rfl) ?_; go_big_quiet_step (fail); refine wpQuiet_nil ?_)
            refine Mix.wpMix_nil ?_
            refine Mix.wpF_0 ?_
            (refine Mix.wpMix_pure (by rfl) ?_; go_big_quiet_step (fail); refine wpQuiet_nil ?_)
            refine Mix.wpMix_nil ?_
            refine Mix.wpF_3 ?_
            (refine Mix.wpMix_read (by rfl) ?_; go_big_quiet_step (fail); refine wpQuiet_nil ?_)
            refine Mix.wpMix_nil ?_
            refine Mix.wpF_0 ?_
            (refine Mix.wpMix_pure (by rfl) ?_; go_big_quiet_step (fail); refine wpQuiet_nil ?_)
            refine Mix.wpMix_nil ?_
            refine Mix.wpF_1 ?_ ?_
            · simp only [List.cons_append, List.nil_append]
              refine Mix.wpMix_chg (by rfl) (fun K hK => ?_)
              go_wp2_with fail
              refine hK _ _ ⟨⟨_, below_drew (below_size.alloc (Nat.le_refl _) _)⟩, rfl⟩ ?_
              clear hK K
              obtain ⟨wc, hwc⟩ : ∃ wc, (wo.alloc (.cells #[i64 0, i64 0, i64 0, .slice none 0 0] 46)).drew = wc := ⟨_, rfl⟩
              rw [hwc]
              have EC : Below wo.heap.size wo wc := by rw [← hwc]; exact below_drew (below_size.alloc (Nat.le_refl _) _)
              have ZC := Lib.hid (show Blk wc wo.heap.size 46 #[i64 0, i64 0, i64 0, .slice none 0 0] by rw [← hwc]; exact (Blk.new wo _ _).drew)
              have hzc : wo.heap.size < wc.heap.size := ZC.out.lt
              clear hwc
              refine Mix.wpMix_chg (by rfl) (fun K hK => ?_)
              go_wp2_with fail
              refine (l23Moved_c xA xn xc xs k _ (by exact RX.out.below EC) hxn40 HX4.out (by omega)).mono ?_
              rw [HF.out]
              rintro e wd ⟨A7, m7, c7, rfl, hw7, hc7, hb7⟩
              have em := below_chain EC EC.size hb7
              have ZD := Lib.hid (ZC.out.keep hb7)
              have W7 := Lib.hid hw7
              have ED := Lib.hid em
              have hzd := hb7.size
              clear hw7 hb7 EC
              have z0 := ZD.out.cell 0; have z1 := ZD.out.cell 1; have z2 := ZD.out.cell 2; have z3 := ZD.out.cell 3; have g0 := ZD.out.frozen 0; have g1 := ZD.out.frozen 1; have g2 := ZD.out.frozen 2; have g3 := ZD.out.frozen 3
              simp at z0 z1 z2 z3
              go_wp2_with fail
              refine hK _ _ ⟨⟨_, ED.out⟩, rfl⟩ ?_
              clear hK K
              refine Mix.wpMix_build (by rfl) _ _ rfl (.agg #[.int .i64 kd, .int .i64 0, .int .i64 ln, .slice A7 m7 c7]) (fun w => by simp [go_sem]) ?_
              refine Mix.wpMix_tail (by rfl) (fun K hK => ?_)
              go_wp2_with fail
              refine hK _ _ ?_
              clear hK K
              (refine Mix.wpMix_nil ?_; try simp only [Exit.then])
              go_wp2_with fail
              go_meet
              exact ⟨wo.heap.size, A7, m7, c7, rfl, (((ZD.out.set_ 0 _).set_ 1 _).set_ 2 _).set_ 3 _, Nat.le_refl _, ((((W7.out.set_far (.inl hzc) _).set_far (.inl hzc) _).set_far (.inl hzc) _).set_far (.inl hzc) _).wider (by omega) (by simp), hc7, (((ED.out.setCell (Nat.le_refl _) _).setCell (Nat.le_refl _) _).setCell (Nat.le_refl _) _).setCell (Nat.le_refl _) _⟩
            · skip
              refine Mix.wpMix_chg (by rfl) (fun K hK => ?_)
              go_wp2_with fail
              refine (l23Moved_c xA xn xc xs k _ (by exact RX.out.drew) hxn40 HX4.out (by omega)).mono ?_
              rw [HF.out]
              rintro e wd ⟨A7, m7, c7, rfl, hw7, hc7, hb7⟩
              have em := below_of_drew hb7
              have W7 := Lib.hid hw7
              have ED := Lib.hid em
              have hzd := em.size
              clear hw7 hb7
              go_wp2_with fail
              refine hK _ _ ⟨⟨_, ED.out⟩, rfl⟩ ?_
              clear hK K
              refine Mix.wpMix_nil ?_
              refine Mix.wpF_0 ?_
              refine Mix.wpMix_build (by rfl) _ _ rfl (.agg #[.int .i64 kd, .int .i64 0, .int .i64 ln, .slice A7 m7 c7]) (fun w => by simp [go_sem]) ?_
              refine Mix.wpMix_nil ?_
              refine Mix.wpF_nil ?_
              refine Mix.wpMix_chg (by rfl) (fun K hK => ?_)
              go_wp2_with fail
              refine hK _ _ ⟨⟨_, ED.out.alloc hzd _⟩, rfl⟩ ?_
              clear hK K
              refine Mix.wpMix_tail (by rfl) (fun K hK => ?_)
              go_wp2_with fail
              refine hK _ _ ?_
              clear hK K
              (refine Mix.wpMix_nil ?_; try simp only [Exit.then])
              go_wp2_with fail
              go_meet
              exact ⟨wd.heap.size, A7, m7, c7, rfl, Blk.new _ _ _, hzd, (W7.out.alloc _).wider (Nat.le_refl _) (by simp), hc7, ED.out.alloc hzd _⟩
          case rest =>
            obtain ⟨g, A7, m7, c7, rfl, hBk, hg, hW7, hc7, hb7⟩ := hcut
            have hm7 := wr_len2 hW7
            have hm7p : 0 < m7 := by rw [← hm7, ← HF.out]; exact movedP_pos hx1
            have hm7b : m7 ≤ 280 := by rw [← hm7, ← HF.out]; exact Nat.le_trans (movedP_len k xs HX5.out) (by omega)
            have BK := Lib.hid hBk; have W7 := Lib.hid hW7; have E7 := Lib.hid hb7
            have hz7 := hb7.size
            have hgl : g < wc.heap.size := hBk.lt
            have z0 : wc.cell? ⟨g, 0, none⟩ = some (.int .i64 kd) := hBk.cell 0
            have z1 : wc.cell? ⟨g, 1, none⟩ = some (.int .i64 0) := hBk.cell 1
            have z2 : wc.cell? ⟨g, 2, none⟩ = some (.int .i64 ln) := hBk.cell 2
            have z3 : wc.cell? ⟨g, 3, none⟩ = some (.slice A7 m7 c7) := hBk.cell 3
            clear hBk hW7 hb7
            by_cases hk0 : kd = 0
            · subst hk0
              go_wp2_with fail
              go_loopw [9, 10] (fun pv jv wy => ∃ (j pc2 : Nat) (Q : Option Addr) (qs : List ItV), j ≤ k ∧ jv = .int .i64 j ∧ pv = .slice Q j pc2 ∧ Hid (PartsL (listP k v F) j qs) ∧ Hid (OwnP wy wo.heap.size 44 Q j pc2 qs none 0 []) ∧ Hid (∀ p, Q = some p → wc.heap.size ≤ p.block) ∧ Hid (Below wc.heap.size wc wy)) (fun _ jv _ => k - (intOf jv).toNat)
              case atStart => exact ⟨0, 0, some ⟨wc.heap.size, 0, none⟩, [], by omega, rfl, rfl, ⟨rfl, fun t ht => by cases ht⟩, OwnP.nil (Own.lit hz7), (fun p hp => by injection hp with hp; subst hp; exact Nat.le_refl _), below_size.alloc (Nat.le_refl _) _⟩
              case round =>
                obtain ⟨j, pc2, Q, qs, hjk, rfl, rfl, hpq, hQ, hQn, hby⟩ := hrel
                have hzy := hby.out.size
                have d1 := keepc hby.out (keepc E7.out HC1.out)
                have y0 := keepc hby.out z0; have y1 := keepc hby.out z1; have y2 := keepc hby.out z2; have y3 := keepc hby.out z3
                by_cases hltj : j < k
                · by_cases hjv : j = v
                  · subst hjv
                    have gj : ((j : Int) == (j : Int)) = true := by simp
                    go_wp2_with (at_builtin; refine wp_app1 (by rfl) _ _ 68 44 (.slice none 0 0) 24 (by rfl) Try.underlying68 info_sE rfl wo.heap.size Q j pc2 (qs.map hdV) (by rfl) (by exact hQ.out.own.alloc _) wr.heap.size (.slice A7 m7 c7) (by rfl) (by exact new_cell _ _ _ 0) rfl (by omega) (by omega) (by simp; omega) ?_; intro g9 c9 w9 own9 hb9 hk9 hg9 hz9)
                    have RA := Lib.hid (show Rd (wr.alloc (.cells #[.slice A7 m7 c7] 44)) A7 (m7 * 2) (F.flatMap enc2) from ((W7.out.below hby.out).alloc _).rd)
                    obtain ⟨a7, rfl, ha7, ha7', _, _⟩ := W7.out.2 (by omega)
                    have O9 := Lib.hid (hQ.out.push2 (t := ⟨some a7, m7, c7, F.flatMap enc2⟩) (below_size.alloc (Nat.le_refl _) _) RA.out (fun a ha => by injection ha with ha; subst ha; exact ha7) (fun a p ha hp _ => by injection ha with ha; subst ha; have := hQn.out p hp; omega) own9 hk9 hg9 hz9)
                    have Q9 := Lib.hid (show ∀ p, some (⟨g9, 0, none⟩ : Addr) = some p → wc.heap.size ≤ p.block from fun p hp => by
                      injection hp with hp; subst hp
                      rcases hg9 with hg9 | hg9
                      · exact hQn.out _ hg9
                      · show wc.heap.size ≤ g9; rw [hg9]; simp; omega)
                    have B9 := Lib.hid ((hby.out.alloc hzy _).trans (below_keep hb9 hk9 hQn.out (by simp; omega)))
                    have P9 := Lib.hid (hpq.out.push (A := some a7) (n := m7) (c := c7) (show (listP k j F)[j]? = some F by rw [listP_at hltj, if_pos rfl]) (by omega))
                    clear own9 hb9 hk9 hg9 hz9
                    go_roundw
                    case rel => exact ⟨j + 1, c9, some ⟨g9, 0, none⟩, _, by omega, by go_num, rfl, P9.out, O9.out, Q9.out, B9.out⟩
                    case measure => simp [intOf]; omega
                  · have gj : ((j : Int) == (v : Int)) = false := by simp; omega
                    have hpl := placeP_len j k
                    go_wp2_with (first
                      | (go_at_call 64; refine (l23Place_c j k wr (by omega) (by omega)).mono ?_; rintro e w8 ⟨A8, m8, c8, rfl, hw8, hc8, hb8⟩; have hm8 := wr_len2 hw8; have W8 := Lib.hid hw8; have E8 := Lib.hid hb8; have hz8 := hb8.size)
                      | (at_builtin; refine wp_app1 (by rfl) _ _ 68 44 (.slice none 0 0) 24 (by rfl) Try.underlying68 info_sE rfl wo.heap.size Q j pc2 (qs.map hdV) (by rfl) (by exact (hQ.out.own.keep E8.out).alloc _) w8.heap.size (.slice A8 m8 c8) (by rfl) (by exact new_cell _ _ _ 0) rfl (by omega) (by omega) (by simp; omega) ?_; intro g9 c9 w9 own9 hb9 hk9 hg9 hz9))
                    have hpp := placeP_pos j k
                    obtain ⟨a8, rfl, ha8, _, _, _⟩ := W8.out.2 (by omega)
                    have O9 := Lib.hid (hQ.out.push (t := ⟨some a8, m8, c8, (placeP j k).flatMap enc2⟩) (by omega) (E8.out.alloc hz8 _) (W8.out.alloc _).rd (fun a ha => by injection ha with ha; subst ha; exact ha8) own9 hk9 hg9 hz9)
                    have Q9 := Lib.hid (show ∀ p, some (⟨g9, 0, none⟩ : Addr) = some p → wc.heap.size ≤ p.block from fun p hp => by
                      injection hp with hp; subst hp
                      rcases hg9 with hg9 | hg9
                      · exact hQn.out _ hg9
                      · show wc.heap.size ≤ g9; rw [hg9]; simp; omega)
                    have B9 := Lib.hid (((below_chain hby.out hzy E8.out).alloc (by omega) _).trans (below_keep hb9 hk9 hQn.out (by simp; omega)))
                    have P9 := Lib.hid (hpq.out.push (A := some a8) (n := m8) (c := c8) (show (listP k v F)[j]? = some (placeP j k) by rw [listP_at hltj, if_neg hjv]) (by omega))
                    clear own9 hb9 hk9 hg9 hz9
                    go_roundw
                    case rel => exact ⟨j + 1, c9, some ⟨g9, 0, none⟩, _, by omega, by go_num, rfl, P9.out, O9.out, Q9.out, B9.out⟩
                    case measure => simp [intOf]; omega
                · obtain rfl : j = k := by omega
                  obtain ⟨X8, hX8⟩ : ∃ X8, packedP (listP j v F) = X8 := ⟨_, rfl⟩
                  have HX8 := Lib.hid hX8
                  have HFL := Lib.hid (show qs.map ItV.vs = (listP j v F).map (·.flatMap enc2) by have := hpq.out.1; rwa [List.take_of_length_le (by rw [listP_len]; exact Nat.le_refl _)] at this)
                  have hX8l : X8.length ≤ 2000 := by
                    rw [← hX8]
                    refine Nat.le_trans (packedP_len _) ?_
                    have h1 := sumL_le (ls := listP j v F) (b := 280) (fun x hx => by
                      unfold listP at hx
                      obtain ⟨q, hq, rfl⟩ := List.mem_map.1 hx
                      have h3 := List.mem_range.1 hq
                      have h4 := placeP_len q j
                      split
                      · rw [hm7]; exact hm7b
                      · omega)
                    rw [listP_len] at h1 ⊢
                    have : j * 280 ≤ 6 * 280 := Nat.mul_le_mul_right _ hN6
                    omega
                  clear hX8
                  go_wp2_with (first
                    | (go_at_call 62; refine (l23Packed_c Q j pc2 qs (listP j v F) wr (hQ.out.rdV hpq.out.one) HFL.out (by omega) hpq.out.2).mono ?_; rw [HX8.out]; rintro e w8 ⟨A8, m8, c8, rfl, hw8, hc8, hb8⟩; have hm8 := wr_len2 hw8; have K8 := Lib.hid ((BK.out.below hby.out hgl).keep hb8); have f3 := K8.out.frozen 3; have q0 : w8.cell? ⟨g, 0, none⟩ = some (.int .i64 0) := K8.out.cell 0; have q1 : w8.cell? ⟨g, 1, none⟩ = some (.int .i64 0) := K8.out.cell 1; have q2 : w8.cell? ⟨g, 2, none⟩ = some (.int .i64 ln) := K8.out.cell 2; have q3 : w8.cell? ⟨g, 3, none⟩ = some (.slice A7 m7 c7) := K8.out.cell 3; have E8 := Lib.hid ((below_chain E7.out hz7 (below_chain hby.out hzy hb8)).setCell (p := ⟨g, 3, none⟩) hg (.slice A8 m8 c8)); have hz8 := hb8.size; have W8 := Lib.hid (show Wr (w8.setCell ⟨g, 3, none⟩ (.slice A8 m8 c8)) wo.heap.size (w8.setCell ⟨g, 3, none⟩ (.slice A8 m8 c8)).heap.size A8 (m8 * 2) (X8.flatMap enc2) from (hw8.set_far (p := ⟨g, 3, none⟩) (.inl (by show g < _; omega)) _).wider (by omega) (by rw [World.size_setCell]; exact Nat.le_refl _)); clear hw8 hb8)
                    | (at_builtin; refine wp_appCmd (by rfl) _ _ (by rfl) w.heap.size O (i + 1) cc js (by rfl) wo hO.out hzr (by exact E8.out.alloc E8.out.size _) _ ⟨0, 0, ln, A8, m8, c8, X8⟩ (by rfl) (by have hbn := Blk.new (w8.setCell ⟨g, 3, none⟩ (.slice A8 m8 c8)) 46 #[.int .i64 0, .int .i64 0, .int .i64 ln, .slice A8 m8 c8]; rwa [World.size_setCell] at hbn) (by exact (W8.out.alloc _).wider (Nat.le_refl _) (by simp)) (by omega) ?_; intro A9 c9 w9 own9 hb9 hz9 hg9 hk9))
                  have O9 := Lib.hid own9; have B9 := Lib.hid (((below_chain HB.out hzr E8.out).alloc (Nat.le_trans hzr E8.out.size) _).trans hb9)
                  clear own9 hb9 hz9 hg9 hk9
                  go_roundw
                  case rel =>
                    refine ⟨i + 1, c9, A9, js ++ [(⟨0, 0, ln, A8, m8, c8, X8⟩ : Ct)], by omega, by go_num, rfl, O9.out, ?_, ?_, B9.out⟩
                    · show (js ++ [_]).map datC = _
                      rw [List.map_append, hj.out, HTK.out, List.map_append, List.map_singleton, List.map_singleton, ← HX8.out, ← HF.out]
                      rfl
                    · intro t ht
                      rcases List.mem_append.1 ht with ht | ht
                      · exact hj1.out t ht
                      · rw [List.mem_singleton] at ht; subst ht; show m8 ≤ 1000000; omega
                  case measure => simp [intOf]; omega
            · have g0 : (kd == 0) = false := by simpa using hk0
              have HON := Lib.hid (show oneC k (kd, (v : Int), ln, xs) = (kd, 0, ln, F) by show (kd, (0 : Int), ln, if kd = 0 then _ else movedP xs k) = _; rw [if_neg hk0, HF.out])
              go_wp2_with (at_builtin; refine wp_appCmd (by rfl) _ _ (by rfl) w.heap.size O (i + 1) cc js (by rfl) wo hO.out hzr (by exact E7.out.alloc hz7 _) wc.heap.size ⟨kd, 0, ln, A7, m7, c7, F⟩ (by rfl) (by exact Blk.new _ _ _) (by exact (W7.out.alloc _).wider (Nat.le_refl _) (by simp)) (by omega) ?_; intro A9 c9 w9 own9 hb9 hz9 hg9 hk9)
              have O9 := Lib.hid own9; have B9 := Lib.hid (((below_chain HB.out hzr E7.out).alloc (Nat.le_trans hzr hz7) _).trans hb9)
              clear own9 hb9 hz9 hg9 hk9
              go_roundw
              case rel =>
                refine ⟨i + 1, c9, A9, js ++ [(⟨kd, 0, ln, A7, m7, c7, F⟩ : Ct)], by omega, by go_num, rfl, O9.out, ?_, ?_, B9.out⟩
                · show (js ++ [_]).map datC = _
                  rw [List.map_append, hj.out, HTK.out, List.map_append, List.map_singleton, List.map_singleton, HON.out]
                  rfl
                · intro t ht
                  rcases List.mem_append.1 ht with ht | ht
                  · exact hj1.out t ht
                  · rw [List.mem_singleton] at ht; subst ht; show m7 ≤ 1000000; omega
              case measure => simp [intOf]; omega
        · obtain rfl : i = n := by omega
          have HJ := Lib.hid (show js.map datC = (0, 0, 0, X0) :: D.map (oneC k) by rw [hj.out, List.take_of_length_le (by rw [HDL.out]; exact Nat.le_refl _)])
          obtain ⟨wq, hwq⟩ : ∃ wq, wo.alloc (.cells #[.int .i64 3, .int .i64 0, .int .i64 1, .int .i64 0] 49) = wq := ⟨_, rfl⟩
          have Eq' := Lib.hid (show Below wo.heap.size wo wq by rw [← hwq]; exact below_size.alloc (Nat.le_refl _) _)
          have hzq := Eq'.out.size
          have Wq := Lib.hid (show Wr wq wo.heap.size wq.heap.size (some ⟨wo.heap.size, 0, none⟩) (2 * 2) ([((3 : Int), (0 : Int)), (1, 0)].flatMap enc2) by rw [← hwq]; exact (Blk.new _ _ _).wr (Nat.le_refl _) (by simp) rfl (by simp))
          clear hb hj
          go_wp2_with (first
            | (go_at_call 61; refine (l22Set_c 0 (some ⟨wo.heap.size, 0, none⟩) 2 2 wq).mono ?_; rintro e w8 ⟨rfl, hb8⟩; have E8 := Lib.hid (below_chain Eq'.out hzq hb8); have W8 := Lib.hid ((Wq.out.below hb8).wider (Nat.le_refl _) hb8.size))
            | (at_builtin; refine wp_appCmd (by rfl) _ _ (by rfl) w.heap.size O (i + 1) cc js (by rfl) wo hO.out hzr (by exact E8.out.alloc E8.out.size _) w8.heap.size ⟨0, 0, 0, some ⟨wo.heap.size, 0, none⟩, 2, 2, [(3, 0), (1, 0)]⟩ (by rfl) (by exact Blk.new _ _ _) (by exact (W8.out.alloc _).wider (Nat.le_refl _) (by simp)) (by omega) ?_; intro A9 c9 w9 own9 hb9 hz9 hg9 hk9))
          have O9 := Lib.hid own9; have B9 := Lib.hid (((below_chain HB.out hzr E8.out).alloc (Nat.le_trans hzr E8.out.size) _).trans hb9)
          clear own9 hb9 hz9 hg9 hk9
          go_ret
          refine ⟨A9, i + 1 + 1, c9, js ++ [(⟨0, 0, 0, some ⟨wo.heap.size, 0, none⟩, 2, 2, [(3, 0), (1, 0)]⟩ : Ct)], rfl, O9.out, ?_, ?_, by omega, B9.out⟩
          · rw [List.map_append, HJ.out, HO.out, oneP, HX0.out]; rfl
          · intro t ht
            rcases List.mem_append.1 ht with ht | ht
            · exact hj1.out t ht
            · rw [List.mem_singleton] at ht; subst ht; show 2 ≤ 1000000; omega
end Go.Proofs.Ytecpbgmcednpoaa
