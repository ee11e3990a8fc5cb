/-
  Contracts of chapter 28 (automata): the program's PruneDfa, which keeps the places in a map.
-/
import Derived.Test.YtplcpldbenjjgaaC28p
import Derived.Test.YtplcpldbenjjgaaMix
namespace Go.Proofs.Ytplcpldbenjjgaa
open Go.RowKit

def ents (order : List Int) : List (Int × Int) := order.zipIdx.map fun p => (p.1, (p.2 : Int))
theorem ents_keys (order : List Int) : (ents order).map (·.1) = order := by simp [ents, Function.comp_def]
theorem ents_at {order : List Int} {x v : Int} (hN : order.Nodup) (h : (x, v) ∈ ents order) : v = placeOf x order := by
  obtain ⟨⟨a, i⟩, hp, he⟩ := List.mem_map.1 h
  simp only [Prod.mk.injEq] at he
  obtain ⟨rfl, rfl⟩ := he
  rw [placeOf_at hN (List.mem_zipIdx_iff_getElem?.1 hp)]
theorem ents_add (order : List Int) (x : Int) : ents (order ++ [x]) = ents order ++ [(x, (order.length : Int))] := by simp [ents, List.zipIdx_append]

theorem key64 : KeyOk Try.prog 2 (Value.int .i64) := keyOk_int Try.underlying2
/-- what the search holds: the states found, the numbers written, the places -/
structure QSt (w1 wr : World) (order out : List Int) (C : Option Addr) (cc : Nat) (A : Option Addr) (c : Nat) : Prop where
  ps : PSt 2 w1 wr order out C cc A c
  mp : MapAt wr (w1.heap.size + 1) (Value.int .i64) (Value.int .i64) (ents order)
section
variable {w1 wr w2 : World} {order out : List Int} {C A : Option Addr} {cc c g' cap : Nat} {o : Obj}
theorem Own.neM {w : World} {B : Nat} {e : TypeId} {size n c : Nat} {A : Option Addr} {vs : List Value} {g : Nat} {m : List (Int × Int)} (h : Own w B e size A n c vs) (hm : MapAt w g (Value.int .i64) (Value.int .i64) m) (ad : Addr) (ha : A = some ad) : ad.block ≠ g := by
  rintro rfl
  obtain ⟨_, _, _, cur, hc⟩ := h.block ha
  obtain ⟨es, ck, hb, _⟩ := hm
  rw [hc] at hb; cases hb
theorem PSt.keep {d : Nat} (h : PSt d w1 wr order out C cc A c) (hb : Below wr.heap.size wr w2) : PSt d w1 w2 order out C cc A c :=
  ⟨h.ord.keep hb, h.outs.keep hb, h.str.keep hb, h.apart, h.bel.trans (hb.mono h.bel.size)⟩
theorem QSt.keep (h : QSt w1 wr order out C cc A c) (hb : Below wr.heap.size wr w2) : QSt w1 w2 order out C cc A c := ⟨h.ps.keep hb, h.mp.keep hb⟩
theorem QSt.look_in (h : QSt w1 wr order out C cc A c) (hN : order.Nodup) {x : Int} (hx : x ∈ order) :
    (Instr.lookup 112 (.map (some (w1.heap.size + 1))) (.int .i64 x) true).run Try.prog wr = .ok (.tuple #[.int .i64 (placeOf x order), .bool true]) wr :=
  h.mp.look_some key64 Try.underlying112 (by rw [ents_keys]; exact hx) (fun v hv => ents_at hN hv)
theorem QSt.look_out (h : QSt w1 wr order out C cc A c) {x : Int} (hx : x ∉ order) :
    (Instr.lookup 112 (.map (some (w1.heap.size + 1))) (.int .i64 x) true).run Try.prog wr = .ok (.tuple #[.int .i64 0, .bool false]) wr :=
  h.mp.look_none key64 Try.underlying112 (by kernel_rfl) (by rw [ents_keys]; exact hx)
/-- the new place is written into the map -/
theorem QSt.note (h : QSt w1 wr order out C cc A c) {x : Int} (hx : x ∉ order) :
    ∃ w2, (Instr.mapUpdate 112 (.map (some (w1.heap.size + 1))) (.int .i64 x) (.int .i64 (order.length : Int))).run Try.prog wr = .ok () w2 ∧ PSt 2 w1 w2 order out C cc A c ∧ MapAt w2 (w1.heap.size + 1) (Value.int .i64) (Value.int .i64) (ents (order ++ [x])) ∧ w2.heap.size = wr.heap.size ∧ Below w1.heap.size wr w2 := by
  obtain ⟨w2, hr, hm, hk, hz⟩ := h.mp.store key64 Try.underlying112 (k := x) (by rw [ents_keys]; exact hx) (order.length : Int)
  have hb : Below w1.heap.size wr w2 := hk.below (by omega) h.ps.bel.size
  refine ⟨w2, hr, ⟨?_, ?_, ?_, h.ps.apart, h.ps.bel.trans hb⟩, by rw [ents_add]; exact hm, hz, hb⟩
  · exact h.ps.ord.move fun ad ha => hk.block _ (h.ps.ord.block ha).2.1 (by have := h.ps.ord.neM h.mp ad ha; omega)
  · exact h.ps.outs.move fun ad ha => hk.block _ (h.ps.outs.block ha).2.1 (by have := h.ps.outs.neM h.mp ad ha; omega)
  · exact Blk.of_block (hk.block _ h.ps.str.lt (by omega)) h.ps.str
theorem QSt.addOut (h : QSt w1 wr order out C cc A c) {v : Int} (own2 : Own w2 w1.heap.size 2 1 (some ⟨g', 0, none⟩) (out.length + 1) cap (out.map i64 ++ [i64 v])) (hb2 : Below w1.heap.size (wr.alloc o) w2)
    (hk2 : ∀ b, b < (wr.alloc o).heap.size → (∀ ad', A = some ad' → ad'.block ≠ b) → w2.heap[b]? = (wr.alloc o).heap[b]?) (hg2 : A = some ⟨g', 0, none⟩ ∨ g' = (wr.alloc o).heap.size) :
    Blk w2 (w1.heap.size + 2) 35 #[i64 0, .slice A out.length c] ∧ QSt w1 (w2.setCell ⟨w1.heap.size + 2, 1, none⟩ (.slice (some ⟨g', 0, none⟩) (out.length + 1) cap)) order (out ++ [v]) C cc (some ⟨g', 0, none⟩) cap := by
  obtain ⟨h1, h2⟩ := h.ps.addOut own2 hb2 hk2 hg2
  refine ⟨h1, h2, ?_⟩
  have hm := (h.mp.alloc o)
  exact (MapAt.of_block (hk2 _ hm.lt (fun ad ha => h.ps.outs.neM h.mp ad ha)) hm).far (by simp) _
theorem PSt.addOrdM (h : PSt 2 w1 wr order out C cc A c) {to : Int} (hm : MapAt wr (w1.heap.size + 1) (Value.int .i64) (Value.int .i64) (ents (order ++ [to]))) (own2 : Own w2 w1.heap.size 2 1 (some ⟨g', 0, none⟩) (order.length + 1) cap (order.map i64 ++ [i64 to])) (hb2 : Below w1.heap.size (wr.alloc o) w2)
    (hk2 : ∀ b, b < (wr.alloc o).heap.size → (∀ ad', C = some ad' → ad'.block ≠ b) → w2.heap[b]? = (wr.alloc o).heap[b]?) (hg2 : C = some ⟨g', 0, none⟩ ∨ g' = (wr.alloc o).heap.size) : QSt w1 w2 (order ++ [to]) out (some ⟨g', 0, none⟩) cap A c :=
  ⟨h.addOrd own2 hb2 hk2 hg2, MapAt.of_block (hk2 _ (hm.alloc o).lt (fun ad ha => h.ord.neM hm ad ha)) (hm.alloc o)⟩
end
theorem QSt.start (w1 w2 : World) (hm : MapAt w2 (w1.heap.size + 1) (Value.int .i64) (Value.int .i64) [(0, 0)]) (hk : KeepR (w1.heap.size + 1) (w1.heap.size + 1 + 1) ((w1.alloc (.cells #[i64 0] 2)).alloc (.map #[] 0)) w2) (hz : w2.heap.size = w1.heap.size + 1 + 1) :
    QSt w1 (w2.alloc (.cells #[i64 0, .slice none 0 0] 35)) [0] [] (some ⟨w1.heap.size, 0, none⟩) 1 none 0 := by
  have hb : Below w1.heap.size w1 w2 := ((below_size.alloc (Nat.le_refl _) _).alloc (by simp) _).trans (hk.below (by omega) (by simp; omega))
  have ho := (Own.lit1 (B := w1.heap.size) (w := w1) (e := 2) (i64 0) (Nat.le_refl _)).alloc (.map #[] 0)
  have ho2 : Own w2 w1.heap.size 2 1 (some ⟨w1.heap.size, 0, none⟩) 1 1 [i64 0] := ho.move fun ad ha => by
    injection ha with ha; subst ha
    exact hk.block _ (by simp; omega) (.inl (by simp))
  refine ⟨⟨ho2.alloc _, Own.nil, ?_, (fun a b _ e => by cases e), hb.alloc (by omega) _⟩, hm.alloc _⟩
  have := Blk.new w2 35 #[i64 0, .slice none 0 0]
  rw [hz] at this
  exact this
set_option maxHeartbeats 4000000 in
theorem iPruneDfa_c (st sym : Int) (A : Option Addr) (n c : Nat) (xs : List Int) (w : World) (h : RdI w A n xs) (hn : n ≤ 1000000000000) :
    Calls Try.prog 30 #[.agg #[.int .i64 st, .slice A n c], .int .i64 sym] w (DfaOut (pruneR st xs sym) w) := by
  have HL := Lib.hid h.len
  have H := Lib.hid (RdU.mk' h)
  have B0 := Lib.hid (show Below w.heap.size w ((w.alloc (.cells #[.int .i64 st, .slice A n c] 35)).alloc (.cells #[.int .i64 0, .slice none 0 0] 35)) from (below_size.alloc (Nat.le_refl _) _).alloc (by simp) _)
  clear h
  cases hd : dfaB st sym xs
  · have HR := Lib.hid (show pruneR st xs sym = ((0, []), 1) by simp [pruneR, hd])
    go_enter Try.func30, Try.ntmps30
    go_wp2_with fail
    refine (iValidDfa_c st sym A n c xs _ (by exact Rd.below H.out.1 B0.out) hn).mono ?_
    rintro e w1 ⟨rfl, hq⟩
    rw [hd]
    have r := Lib.hid (show Blk w1 (w.heap.size + 1) 35 #[.int .i64 0, .slice none 0 0] by
      have := (Blk.new (w.alloc (.cells #[.int .i64 st, .slice A n c] 35)) 35 #[.int .i64 0, .slice none 0 0]).keep hq
      rw [World.size_alloc] at this; exact this)
    have r0 := r.out.cell 0; have r1 := r.out.cell 1; have rf0 := r.out.frozen 0; have rf1 := r.out.frozen 1
    simp at r0 r1
    have T := Lib.hid (below_chain B0.out B0.out.size hq)
    clear hq
    go_wp2_with fail
    refine bodyPost_ret (v := .tuple #[.agg #[.int .i64 0, .slice none 0 0], .int .i64 1]) (by simp [results, Try.results30, go_sem, r0, r1]) rfl ⟨none, 0, 0, by rw [HR.out], by rw [HR.out]; exact Wr.nil, by omega, (by have hzz := (T.out).size; repeat' (first | (with_reducible exact T.out) | (with_reducible refine Below.alloc ?_ ?_ _) | (with_reducible refine Below.setCell ?_ ?_ _) | (with_reducible refine below_drew ?_) | omega | (simp; done) | (simp; omega)))⟩
  obtain ⟨hsym, hst, hlen, hhd, hall⟩ := dfaB_parts hd
  have HR := Lib.hid (show pruneR st xs sym = ((((pruneL xs sym).1.length : Int), (pruneL xs sym).2), 0) by simp [pruneR, hd])
  obtain ⟨stN, hstN⟩ := Int.eq_ofNat_of_zero_le (show 0 ≤ st by omega)
  obtain ⟨syN, hsyN⟩ := Int.eq_ofNat_of_zero_le (show 0 ≤ sym by omega)
  have HP := Lib.hid (show pruneL xs sym = pgo (nxD xs sym) syN 200 0 0 [0] [] by rw [pruneL, hsyN]; rfl)
  have HSt := Lib.hid hstN; have HSy := Lib.hid hsyN
  have hsyb : syN ≤ 6 ∧ 2 ≤ syN := by omega
  have hstb : 1 ≤ stN ∧ stN ≤ 20 := by omega
  have hn2 : n ≤ 120 := by
    have h1 := HL.out; have := mul_bd hsym hst; omega
  have HA := Lib.hid hall; have HLen := Lib.hid hlen
  clear hall hlen hhd hstN hsyN
  go_enter Try.func30, Try.ntmps30
  go_wp2_with fail
  refine (iValidDfa_c st sym A n c xs _ (by exact Rd.below H.out.1 B0.out) hn).mono ?_
  rintro e w1 ⟨rfl, hq⟩
  rw [hd]
  have B1 := Lib.hid (below_chain B0.out B0.out.size hq)
  have X := Lib.hid (show Blk w1 w.heap.size 35 #[.int .i64 st, .slice A n c] ∧ Blk w1 (w.heap.size + 1) 35 #[.int .i64 0, .slice none 0 0] by
    refine ⟨((Blk.new w _ _).alloc _).keep hq, ?_⟩
    have := (Blk.new (w.alloc (.cells #[.int .i64 st, .slice A n c] 35)) 35 #[.int .i64 0, .slice none 0 0]).keep hq
    rw [World.size_alloc] at this; exact this)
  have H1 := Lib.hid (show RdU w1 w1.heap.size A n (xs.map i64) from ⟨H.out.1.below B1.out, fun ad h0 e => by have := H.out.2 ad h0 e; have := B1.out.size; omega⟩)
  have hl1 : w.heap.size < w1.heap.size := X.out.1.lt
  have hl2 : w.heap.size + 1 < w1.heap.size := X.out.2.lt
  clear hq hd
  have hmm := @run_makeMap Try.prog
  obtain ⟨w2, hrun, hm2, hk2, hz2⟩ := ((show MapAt ((w1.alloc (.cells #[i64 0] 2)).alloc (.map #[] 0)) (w1.heap.size + 1) (Value.int .i64) (Value.int .i64) [] by
    have := MapAt.new (w1.alloc (.cells #[i64 0] 2)) (Value.int .i64) (Value.int .i64); rw [World.size_alloc] at this; exact this)).store key64 Try.underlying112 (k := 0) (by simp) 0
  have Q0 := Lib.hid (QSt.start w1 w2 hm2 hk2 (by rw [hz2]; simp))
  have hz2' : w2.heap.size = w1.heap.size + 1 + 1 := by rw [hz2]; simp
  clear hm2 hk2 hz2
  go_wp2_with fail
  clear hmm hrun
  go_loopw [7, 9] (fun ov iv wr => ∃ (i f : Nat) (order out : List Int) (C : Option Addr) (cc : Nat) (A' : Option Addr) (c' : Nat), ov = .slice C order.length cc ∧ iv = .int .i64 i ∧ i ≤ order.length ∧ POk stN order ∧ (20 - i) * 7 + syN < f ∧ Hid (out.length = i * syN) ∧ Hid (pruneL xs sym = pgo (nxD xs sym) syN f i 0 order out) ∧ QSt w1 wr order out C cc A' c') (fun _ iv _ => 21 - (intOf iv).toNat)
  case atStart => exact ⟨0, 200, [0], [], some ⟨w1.heap.size, 0, none⟩, 1, none, 0, rfl, rfl, by simp, POk.start hstb.1, by omega, by simp [Hid], HP.out, Q0.out⟩
  case round =>
    obtain ⟨i, f, order, out, C, cc, A', c', rfl, rfl, hi, hok, hf, hol, hr, hP⟩ := hrel
    have HK := Lib.hid hok; have P := Lib.hid hP
    have hosz := hok.len
    clear hok hP Q0
    by_cases hlt : i < order.length
    · go_wp2_with fail
      go_loopw [7, 30] (fun ov sv wr => ∃ (s f : Nat) (order out : List Int) (C : Option Addr) (cc : Nat) (A' : Option Addr) (c' : Nat), ov = .slice C order.length cc ∧ sv = .int .i64 s ∧ s ≤ syN ∧ i < order.length ∧ POk stN order ∧ (20 - i) * 7 + (syN - s) < f ∧ Hid (out.length = i * syN + s) ∧ Hid (pruneL xs sym = pgo (nxD xs sym) syN f i s order out) ∧ QSt w1 wr order out C cc A' c') (fun _ sv _ => syN - (intOf sv).toNat)
      case atStart => exact ⟨0, f, order, out, C, cc, A', c', rfl, rfl, by omega, hlt, HK.out, by omega, by unfold Hid; rw [hol.out]; omega, hr.out, P.out⟩
      case round =>
        clear HK P hr hf hol hosz hi
        obtain ⟨s, f, order, out, C, cc, A', c', rfl, rfl, hs, hi, hok, hf, hol, hr, hP⟩ := hrel
        have hosz := hok.len
        have hob : out.length ≤ 1000 := by
          have h1 := hol.out
          have h2 : i * syN ≤ 20 * 6 := Nat.mul_le_mul (by omega) (by omega)
          omega
        have HK := Lib.hid hok; have P := Lib.hid hP
        clear hok hP
        by_cases hss : s < syN
        · have hss' : (s : Int) < sym := by have := HSy.out; omega
          obtain ⟨ad, qv, rfl, hab, hq, hcq⟩ := P.out.ps.ord.wr.rdI.at_ hi
          have hqr := HK.out.range qv (List.mem_of_getElem? hq)
          have HQ := Lib.hid (show order.getD i 0 = qv by rw [List.getD_eq_getElem?_getD, hq]; rfl)
          obtain ⟨hb0, hb1, hb2, hb3⟩ := step_bd (now := qv) (s := (s : Int)) hsym hst ⟨hqr.1, by have := HSt.out; omega⟩ ⟨by omega, by omega⟩
          obtain ⟨j, hj⟩ := Int.eq_ofNat_of_zero_le hb2
          have hjn : j < n := by have h1 := HL.out; have h2 := HLen.out; rw [h1] at h2; omega
          have HRd := Lib.hid (show RdI wr A n xs from Rd.belowB H1.out.1 H1.out.2 P.out.ps.bel)
          obtain ⟨adx, x, rfl, _, hx, hcx⟩ := HRd.out.at_ hjn
          have HX := Lib.hid (show nxD xs sym (order.getD i 0) s = x by rw [HQ.out, nxD, hj, nextOf_at hx])
          have HX2 := Lib.hid (show nextOf xs (qv * sym + (s : Int)) = x by rw [hj, nextOf_at hx])
          have hxr := HA.out x (List.mem_of_getElem? hx)
          have hxs : x < stN := by have := HSt.out; omega
          have d1 := (X.out.1.below P.out.ps.bel hl1)
          have d10 := d1.cell 0; have d11 := d1.cell 1
          simp at d10 d11
          have x0 := Ext.cell d10; have x1 := Ext.cell d11; have x2 := Ext.cell hcq
          have HP1 := Lib.hid (show pruneL xs sym = pgo (nxD xs sym) syN (f - 1) i (s + 1) (pOrd x order) (out ++ [pNum x order]) by rw [hr.out, show f = f - 1 + 1 by omega, pgo_arrow hi hss, HX.out, Nat.add_sub_cancel])
          have HOK := Lib.hid (HK.out.step (to := x) hxr.1 hxs)
          have HJ := Lib.hid (show qv * sym + (s : Int) < (n : Int) by omega)
          clear hq hx hj hr d1 hcx hcq d10 d11
          go_wp2_with fail
          refine Mix.wp_region_mix [3, 0, 0, 0, 3, 0, 0, 1, 0] (fun w' => ∃ x : Ext wr, w' = x.w) (by kernel_rfl) (by kernel_rfl) (InExt.drew _) ?_
          repeat (first | (refine Mix.wpMix_read (by rfl) ?_; go_big_quiet_step (fail); refine wpQuiet_nil ?_) | (refine Mix.wpMix_pure (by rfl) ?_; go_big_quiet_step (fail); refine wpQuiet_nil ?_))
          refine Mix.wpMix_chg (by rfl) (fun K hK => ?_)
          go_wp2_with fail
          refine (dfaTo_c _ _ _ _ xs _ _ _ _ (by exact HRd.out) (by omega) (by omega) (by omega) HJ.out (by omega)).mono ?_
          rintro e wa ⟨rfl, hba⟩
          have ea := below_of_drew hba
          rw [HX2.out]
          go_wp2_with fail
          refine hK _ _ ⟨⟨_, ea⟩, rfl⟩ ?_
          clear hK K
          repeat (first | (refine Mix.wpMix_read (by rfl) ?_; go_big_quiet_step (fail); refine wpQuiet_nil ?_) | (refine Mix.wpMix_pure (by rfl) ?_; go_big_quiet_step (fail); refine wpQuiet_nil ?_))
          (refine Mix.wpMix_nil ?_; try simp only [Exit.then])
          have PA := Lib.hid (P.out.keep ea)
          have hPb := PA.out.ps.bel.size
          clear x0 x1 x2 hba
          by_cases hin : x ∈ order
          · have hlk := PA.out.look_in HK.out.nodup hin
            have s1 := PA.out.ps.str.cell 1
            simp at s1
            have HN := Lib.hid (pNum_in hin)
            have HO := Lib.hid (pOrd_in hin)
            clear hin
            go_wp2_with (at_builtin; refine wp_app1 (by rfl) _ _ 31 2 (.int .i64 0) 8 (by rfl) Try.underlying31 info_i64 rfl w1.heap.size A' out.length c' (out.map i64) (by rfl) (by exact PA.out.ps.outs.alloc _) wa.heap.size (i64 (placeOf x order)) (by rfl) (by exact new_cell _ _ _ 0) rfl (by omega) (by omega) (by simp; omega) ?_; intro g' cap w2 own2 hb2 hk2 hg2 hz2; have hS := PA.out.addOut own2 hb2 hk2 hg2; have t1 := hS.1.cell 1; have tf1 := hS.1.frozen 1; simp at t1)
            have S2 := Lib.hid hS.2
            clear own2 hb2 hk2 hg2 hz2 hS hlk s1
            go_wp2_with fail
            go_roundw
            case rel =>
              refine ⟨s + 1, f - 1, order, out ++ [(placeOf x order : Int)], some ad, cc, some ⟨g', 0, none⟩, cap, rfl, by go_num, by omega, hi, HK.out, by omega, by unfold Hid; rw [List.length_append, hol.out]; simp; omega, ?_, S2.out⟩
              have := HP1.out
              rw [HO.out, HN.out] at this
              exact this
            case measure => simp [intOf]; omega
          · have hlk := PA.out.look_out hin
            have HN := Lib.hid (show pNum x order = order.length from pNum_new hin)
            have HO := Lib.hid (pOrd_new hin)
            obtain ⟨wn, hrun, hpn, hmn, hzn, hbn⟩ := PA.out.note hin
            have PN := Lib.hid hpn; have MN := Lib.hid hmn
            have hPb2 := hpn.bel.size
            clear hin hpn hmn hbn hzn
            go_wp2_with fail
            refine (sizeI_c _ _ _ _ (by omega)).mono ?_
            rintro e w' ⟨rfl, rfl⟩
            clear hlk
            go_wp2_with (at_builtin; first | (refine wp_app1 (by rfl) _ _ 31 2 (.int .i64 0) 8 (by rfl) Try.underlying31 info_i64 rfl w1.heap.size (some ad) order.length cc (order.map i64) (by rfl) (by exact PN.out.ord.alloc _) wn.heap.size (i64 x) (by rfl) (by exact new_cell _ _ _ 0) rfl (by omega) (by omega) (by simp; omega) ?_; intro g1 cap1 w3 own3 hb3 hk3 hg3 hz3; have hQ := PN.out.addOrdM MN.out own3 hb3 hk3 hg3; have u1 := hQ.ps.str.cell 1; simp at u1) | (refine wp_app1 (by rfl) _ _ 31 2 (.int .i64 0) 8 (by rfl) Try.underlying31 info_i64 rfl w1.heap.size A' out.length c' (out.map i64) (by rfl) (by exact hQ.ps.outs.alloc _) w3.heap.size (i64 order.length) (by rfl) (by exact new_cell _ _ _ 0) rfl (by omega) (by omega) (by have := hQ.ps.bel.size; simp; omega) ?_; intro g' cap w2 own2 hb2 hk2 hg2 hz2; have hS := hQ.addOut own2 hb2 hk2 hg2; have t1 := hS.1.cell 1; have tf1 := hS.1.frozen 1; simp at t1))
            have S2 := Lib.hid hS.2
            clear own2 hb2 hk2 hg2 hz2 hS
            go_wp2_with fail
            go_roundw
            case rel =>
              refine ⟨s + 1, f - 1, order ++ [x], out ++ [(order.length : Int)], some ⟨g1, 0, none⟩, cap1, some ⟨g', 0, none⟩, cap, by rw [List.length_append]; rfl, by go_num, by omega, by rw [List.length_append]; omega, ?_, by omega, by unfold Hid; rw [List.length_append, hol.out]; simp; omega, ?_, S2.out⟩
              · have := HOK.out
                rw [HO.out] at this
                exact this
              · have := HP1.out
                rw [HO.out, HN.out] at this
                exact this
            case measure => simp [intOf]; omega
        · have hss' : ¬ (s : Int) < sym := by have := HSy.out; omega
          have HN := Lib.hid (show pruneL xs sym = pgo (nxD xs sym) syN (f - 1) (i + 1) 0 order out by rw [hr.out, show f = f - 1 + 1 by omega, pgo_next hi hss, Nat.add_sub_cancel])
          have HO := Lib.hid (show out.length = (i + 1) * syN by rw [hol.out, Nat.add_mul]; omega)
          clear hr hol
          go_wp2_with fail
          go_roundw
          case rel => exact ⟨i + 1, f - 1, order, out, C, cc, A', c', rfl, by go_num, by omega, HK.out, by omega, HO.out, HN.out, P.out⟩
          case measure => simp [intOf]; omega
    · have HN := Lib.hid (show pruneL xs sym = (order, out) by rw [hr.out, show f = f - 1 + 1 by omega, pgo_end hlt])
      have HOB := Lib.hid (show out.length ≤ 1000000 by
        have h1 := hol.out
        have h2 : i * syN ≤ 20 * 6 := Nat.mul_le_mul (by omega) (by omega)
        omega)
      have R := Lib.hid (X.out.2.below P.out.ps.bel hl2)
      have s0 := P.out.ps.str.cell 0; have s1 := P.out.ps.str.cell 1; have sf0 := P.out.ps.str.frozen 0
      have r0 := R.out.cell 0; have r1 := R.out.cell 1; have rf0 := R.out.frozen 0; have rf1 := R.out.frozen 1
      simp at s0 s1 r0 r1
      clear hr hol
      go_wp2_with fail
      refine (sizeI_c _ _ _ _ (by omega)).mono ?_
      rintro e w' ⟨rfl, rfl⟩
      go_wp2_with fail
      refine bodyPost_ret (v := .tuple #[.agg #[.int .i64 order.length, .slice A' out.length c'], .int .i64 0]) (by simp [results, Try.results30, go_sem, r0, r1]) rfl ⟨A', out.length, c', by rw [HR.out, HN.out], ?_, HOB.out, ?_⟩
      · rw [HR.out, HN.out]
        have h1 := P.out.ps.outs.far (p := ⟨w1.heap.size + 2, 0, none⟩) (fun ad ha => P.out.ps.outs.ne_ P.out.ps.str (by decide) ad ha) (.int .i64 order.length)
        have h2 := h1.far (p := ⟨w.heap.size + 1, 0, none⟩) (fun ad ha => by have := (h1.block ha).1; simp; omega) (.int .i64 order.length)
        have h3 := h2.far (p := ⟨w.heap.size + 1, 1, none⟩) (fun ad ha => by have := (h2.block ha).1; simp; omega) (.slice A' out.length c')
        exact h3.wr.wider (by omega) (Nat.le_refl _)
      · have T := B1.out.trans (P.out.ps.bel.mono (Nat.le_of_lt hl1))
        exact (by have hzz := (T).size; repeat' (first | (with_reducible exact T) | (with_reducible refine Below.alloc ?_ ?_ _) | (with_reducible refine Below.setCell ?_ ?_ _) | (with_reducible refine below_drew ?_) | omega | (simp; done) | (simp; omega)))
end Go.Proofs.Ytplcpldbenjjgaa
