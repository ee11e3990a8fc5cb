/-
  Contracts of chapter 28 (automata): PruneDfa.
-/
import Derived.Test.YtplcpldbenjjgaaC28c
import Derived.Test.YtplcpldbenjjgaaPlain28p
import Derived.Test.YtplcpldbenjjgaaMap
import Derived.Test.YtplcpldbenjjgaaApp
namespace Go.Proofs.Ytplcpldbenjjgaa
open Go.RowKit

def nxD (xs : List Int) (sym : Int) (q : Int) (s : Nat) : Int := nextOf xs (q * sym + s)
def pruneL (xs : List Int) (sym : Int) : List Int × List Int := pgo (nxD xs sym) sym.toNat 200 0 0 [0] []
def pruneR (st : Int) (xs : List Int) (sym : Int) : (Int × List Int) × Int := if dfaB st sym xs then ((((pruneL xs sym).1.length : Int), (pruneL xs sym).2), 0) else ((0, []), 1)

/-- what the search holds: the states found, the numbers written -/
structure PSt (d : Nat) (w1 wr : World) (order out : List Int) (C : Option Addr) (cc : Nat) (A : Option Addr) (c : Nat) : Prop where
  ord : Own wr w1.heap.size 2 1 C order.length cc (order.map i64)
  outs : Own wr w1.heap.size 2 1 A out.length c (out.map i64)
  str : Blk wr (w1.heap.size + d) 35 #[i64 0, .slice A out.length c]
  apart : ∀ a b, C = some a → A = some b → a.block ≠ b.block
  bel : Below w1.heap.size w1 wr
section
variable {w1 wr w2 : World} {order out : List Int} {C A : Option Addr} {d cc c g' cap : Nat} {o : Obj}
theorem PSt.addOrd (h : PSt d w1 wr order out C cc A c) {to : Int} (own2 : Own w2 w1.heap.size 2 1 (some ⟨g', 0, none⟩) (order.length + 1) cap (order.map i64 ++ [i64 to])) (hb2 : Below w1.heap.size (wr.alloc o) w2)
    (hk2 : ∀ b, b < (wr.alloc o).heap.size → (∀ ad', C = some ad' → ad'.block ≠ b) → w2.heap[b]? = (wr.alloc o).heap[b]?) (hg2 : C = some ⟨g', 0, none⟩ ∨ g' = (wr.alloc o).heap.size) : PSt d w1 w2 (order ++ [to]) out (some ⟨g', 0, none⟩) cap A c := by
  refine ⟨by rw [List.length_append, List.map_append]; exact own2, ?_, ?_, ?_, (h.bel.alloc h.bel.size o).trans hb2⟩
  · exact (h.outs.alloc o).move fun ad ha => hk2 _ (by have := (h.outs.block ha).2.1; simp; omega) (fun a e => h.apart a ad e ha)
  · exact (hk2 _ (by have := h.str.lt; simp; omega) (fun a e => h.ord.ne_ h.str (by decide) a e)).trans (h.str.alloc o)
  · intro a b e hb
    injection e with e; subst e
    rcases hg2 with hg | hg
    · exact h.apart _ b hg hb
    · have := (h.outs.block hb).2.1
      simp at hg
      simp; omega
theorem PSt.addOut (h : PSt d w1 wr order out C cc A c) {v : Int} (own2 : Own w2 w1.heap.size 2 1 (some ⟨g', 0, none⟩) (out.length + 1) cap (out.map i64 ++ [i64 v])) (hb2 : Below w1.heap.size (wr.alloc o) w2)
    (hk2 : ∀ b, b < (wr.alloc o).heap.size → (∀ ad', A = some ad' → ad'.block ≠ b) → w2.heap[b]? = (wr.alloc o).heap[b]?) (hg2 : A = some ⟨g', 0, none⟩ ∨ g' = (wr.alloc o).heap.size) :
    Blk w2 (w1.heap.size + d) 35 #[i64 0, .slice A out.length c] ∧ PSt d w1 (w2.setCell ⟨w1.heap.size + d, 1, none⟩ (.slice (some ⟨g', 0, none⟩) (out.length + 1) cap)) order (out ++ [v]) C cc (some ⟨g', 0, none⟩) cap := by
  have hs : Blk w2 (w1.heap.size + d) 35 #[i64 0, .slice A out.length c] := (hk2 _ (by have := h.str.lt; simp; omega) (fun a e => h.outs.ne_ h.str (by decide) a e)).trans (h.str.alloc o)
  have ho : Own w2 w1.heap.size 2 1 C order.length cc (order.map i64) := (h.ord.alloc o).move fun ad ha => hk2 _ (by have := (h.ord.block ha).2.1; simp; omega) (fun a e => fun e2 => h.apart ad a ha e e2.symm)
  refine ⟨hs, ?_, ?_, ?_, ?_, ?_⟩
  · exact ho.far (fun ad ha => ho.ne_ hs (by decide) ad ha) _
  · rw [List.length_append, List.map_append]
    exact own2.far (fun ad ha => own2.ne_ hs (by decide) ad ha) _
  · have := hs.set_ 1 (.slice (some ⟨g', 0, none⟩) (out.length + 1) cap)
    rw [List.length_append]
    simpa using this
  · intro a b ha e
    injection e with e; subst e
    rcases hg2 with hg | hg
    · exact h.apart a _ ha hg
    · have := (h.ord.block ha).2.1
      simp at hg
      simp; omega
  · exact (((h.bel.alloc h.bel.size o).trans hb2).setCell (by simp) _)
end
theorem PSt.drewN {w1 wr : World} {order out : List Int} {C A : Option Addr} {d cc c : Nat} (h : PSt d w1 wr order out C cc A c) (m : Nat) : PSt d w1 (wr.drewN m) order out C cc A c :=
  ⟨h.ord.keep (below_drewN below_size m), h.outs.keep (below_drewN below_size m), h.str.drewN m, h.apart, below_drewN h.bel m⟩
theorem Own.lit1 {w : World} {B : Nat} {e : TypeId} (v : Value) (hB : B ≤ w.heap.size) : Own (w.alloc (.cells #[v] e)) B e 1 (some ⟨w.heap.size, 0, none⟩) 1 1 [v] :=
  ⟨by simp, .inr ⟨w.heap.size, 1, #[v], rfl, hB, heap_alloc_new w _, by omega, by simp [maxLen], by simp, by simp⟩⟩
theorem PSt.start (w1 : World) : PSt 1 w1 ((w1.alloc (.cells #[i64 0] 2)).alloc (.cells #[i64 0, .slice none 0 0] 35)) [0] [] (some ⟨w1.heap.size, 0, none⟩) 1 none 0 := by
  refine ⟨(Own.lit1 _ (Nat.le_refl _)).alloc _, Own.nil, ?_, (fun a b _ e => by cases e), ((below_size.alloc (Nat.le_refl _) _).alloc (by simp) _)⟩
  have := Blk.new (w1.alloc (.cells #[i64 0] 2)) 35 #[i64 0, .slice none 0 0]
  rw [World.size_alloc] at this
  exact this
theorem take_mem_at {l : List Int} {k : Nat} {x y : Int} (h : l[k]? = some y) : (x ∈ l.take (k + 1)) ↔ (x ∈ l.take k ∨ x = y) := by rw [take_at h]; simp
set_option maxHeartbeats 4000000 in
set_option maxRecDepth 100000 in
theorem sPruneDfa_c (st sym : Int) (A : Option Addr) (n c : Nat) (xs : List Int) (w : World) (h : RdI w A n xs) (hn : n ≤ 1000000000000) :
    Calls Try.prog 28 #[.agg #[.int .i64 st, .slice A n c], .int .i64 sym] w (DfaOut (pruneR st xs sym) w) := by
  have HL := Lib.hid h.len
  have H := Lib.hid (RdU.mk' h)
  have B0 := Lib.hid (show Below w.heap.size w ((w.alloc (.cells #[.int .i64 st, .slice A n c] 35)).alloc (.cells #[.int .i64 0, .slice none 0 0] 35)) from (below_size.alloc (Nat.le_refl _) _).alloc (by simp) _)
  clear h
  cases hd : dfaB st sym xs
  · have HR := Lib.hid (show pruneR st xs sym = ((0, []), 1) by simp [pruneR, hd])
    go_enter Try.func28, Try.ntmps28
    go_wp2_with fail
    refine (l28Is_c w.heap.size st sym A n c xs _ (by simp) (by simp) (by exact Rd.below H.out.1 B0.out) hn).mono ?_
    rintro e w1 ⟨rfl, hq⟩
    rw [hd]
    obtain ⟨m, rfl⟩ := hq
    go_wp2_with fail
    refine bodyPost_ret (v := .tuple #[.agg #[.int .i64 0, .slice none 0 0], .int .i64 1]) (by simp [results, Try.results28, go_sem]) rfl ⟨none, 0, 0, by rw [HR.out], by rw [HR.out]; exact Wr.nil, by omega, (by have hzz := (below_drewN B0.out m).size; repeat' (first | (with_reducible exact below_drewN B0.out m) | (with_reducible refine Below.alloc ?_ ?_ _) | (with_reducible refine Below.setCell ?_ ?_ _) | (with_reducible refine below_drew ?_) | omega | (simp; done) | (simp; omega)))⟩
  obtain ⟨hsym, hst, hlen, hhd, hall⟩ := dfaB_parts hd
  have HR := Lib.hid (show pruneR st xs sym = ((((pruneL xs sym).1.length : Int), (pruneL xs sym).2), 0) by simp [pruneR, hd])
  obtain ⟨stN, hstN⟩ := Int.eq_ofNat_of_zero_le (show 0 ≤ st by omega)
  obtain ⟨syN, hsyN⟩ := Int.eq_ofNat_of_zero_le (show 0 ≤ sym by omega)
  have HP := Lib.hid (show pruneL xs sym = pgo (nxD xs sym) syN 200 0 0 [0] [] by rw [pruneL, hsyN]; rfl)
  have HSt := Lib.hid hstN; have HSy := Lib.hid hsyN
  have hsyb : syN ≤ 6 ∧ 2 ≤ syN := by omega
  have hstb : 1 ≤ stN ∧ stN ≤ 20 := by omega
  have HA := Lib.hid hall; have HLen := Lib.hid hlen
  clear hall hlen hhd hstN hsyN
  go_enter Try.func28, Try.ntmps28
  go_wp2_with fail
  refine (l28Is_c w.heap.size st sym A n c xs _ (by simp) (by simp) (by exact Rd.below H.out.1 B0.out) hn).mono ?_
  rintro e w1 ⟨rfl, hq⟩
  rw [hd]
  have B1 := Lib.hid (B0.out.trans (hq.below _))
  have X := Lib.hid (show Blk w1 w.heap.size 35 #[.int .i64 st, .slice A n c] ∧ Blk w1 (w.heap.size + 1) 35 #[.int .i64 0, .slice none 0 0] by
    obtain ⟨m, rfl⟩ := hq
    refine ⟨((Blk.new w _ _).alloc _).drewN m, ?_⟩
    have := (Blk.new (w.alloc (.cells #[.int .i64 st, .slice A n c] 35)) 35 #[.int .i64 0, .slice none 0 0]).drewN m
    rw [World.size_alloc] at this; exact this)
  have hw1 : w1.heap.size = w.heap.size + 1 + 1 := by obtain ⟨m, rfl⟩ := hq; simp
  have HW1 := Lib.hid hw1
  have H1 := Lib.hid (show RdU w1 w1.heap.size A n (xs.map i64) from ⟨H.out.1.below B1.out, fun ad h0 e => by have := H.out.2 ad h0 e; omega⟩)
  have hl1 : w.heap.size < w1.heap.size := by omega
  have hl2 : w.heap.size + 1 < w1.heap.size := by omega
  clear hq hd hw1
  go_wp2_with fail
  go_loopw [6, 8] (fun ov iv wr => ∃ (i f : Nat) (order out : List Int) (C : Option Addr) (cc : Nat) (A' : Option Addr) (c' : Nat), ov = .slice C order.length cc ∧ iv = .int .i64 i ∧ i ≤ order.length ∧ POk stN order ∧ (20 - i) * 7 + syN < f ∧ Hid (out.length = i * syN) ∧ Hid (pruneL xs sym = pgo (nxD xs sym) syN f i 0 order out) ∧ PSt 1 w1 wr order out C cc A' c') (fun _ iv _ => 21 - (intOf iv).toNat)
  case atStart => exact ⟨0, 200, [0], [], some ⟨w1.heap.size, 0, none⟩, 1, none, 0, rfl, rfl, by simp, POk.start hstb.1, by omega, by simp [Hid], HP.out, PSt.start w1⟩
  case round =>
    obtain ⟨i, f, order, out, C, cc, A', c', rfl, rfl, hi, hok, hf, hol, hr, hP⟩ := hrel
    have HK := Lib.hid hok; have P := Lib.hid hP
    have hosz := hok.len
    clear hok hP
    by_cases hlt : i < order.length
    · go_wp2_with fail
      go_loopw [6, 9] (fun ov sv wr => ∃ (s f : Nat) (order out : List Int) (C : Option Addr) (cc : Nat) (A' : Option Addr) (c' : Nat), ov = .slice C order.length cc ∧ sv = .int .i64 s ∧ s ≤ syN ∧ i < order.length ∧ POk stN order ∧ (20 - i) * 7 + (syN - s) < f ∧ Hid (out.length = i * syN + s) ∧ Hid (pruneL xs sym = pgo (nxD xs sym) syN f i s order out) ∧ PSt 1 w1 wr order out C cc A' c') (fun _ sv _ => syN - (intOf sv).toNat)
      case atStart => exact ⟨0, f, order, out, C, cc, A', c', rfl, rfl, by omega, hlt, HK.out, by omega, by unfold Hid; rw [hol.out]; omega, hr.out, P.out⟩
      case round =>
        clear HK P hr hf hol hosz hi
        obtain ⟨s, f, order, out, C, cc, A', c', rfl, rfl, hs, hi, hok, hf, hol, hr, hP⟩ := hrel
        have hosz := hok.len
        have hob : out.length ≤ 1000 := by
          have h1 := hol.out
          have h2 : i * syN ≤ 20 * 6 := Nat.mul_le_mul (by omega) (by omega)
          omega
        have HK := Lib.hid hok; have P := Lib.hid hP
        clear hok hP
        by_cases hss : s < syN
        · have hss' : (s : Int) < sym := by have := HSy.out; omega
          obtain ⟨ad, qv, rfl, hab, hq, hcq⟩ := P.out.ord.wr.rdI.at_ hi
          have hqr := HK.out.range qv (List.mem_of_getElem? hq)
          have HQ := Lib.hid (show order.getD i 0 = qv by rw [List.getD_eq_getElem?_getD, hq]; rfl)
          obtain ⟨hb0, hb1, hb2, hb3⟩ := step_bd (now := qv) (s := (s : Int)) hsym hst ⟨hqr.1, by have := HSt.out; omega⟩ ⟨by omega, by omega⟩
          obtain ⟨j, hj⟩ := Int.eq_ofNat_of_zero_le hb2
          have hjn : j < n := by have h1 := HL.out; have h2 := HLen.out; rw [h1] at h2; omega
          obtain ⟨adx, x, rfl, _, hx, hcx⟩ := RdI.at_ (xs := xs) (Rd.belowB H1.out.1 H1.out.2 P.out.bel) hjn
          have HX := Lib.hid (show nxD xs sym (order.getD i 0) s = x by rw [HQ.out, nxD, hj, nextOf_at hx])
          have hxr := HA.out x (List.mem_of_getElem? hx)
          have hxs : x < stN := by have := HSt.out; omega
          have d1 := (X.out.1.below P.out.bel hl1).cell 1
          simp at d1
          have v1 : IntKind.i64.wrap (qv * sym) = qv * sym := IntWalk.i64_in _ (by omega)
          have v2 : IntKind.i64.wrap (qv * sym + (s : Int)) = (j : Int) := (IntWalk.i64_in _ (by omega)).trans hj
          have HP1 := Lib.hid (show pruneL xs sym = pgo (nxD xs sym) syN (f - 1) i (s + 1) (pOrd x order) (out ++ [pNum x order]) by rw [hr.out, show f = f - 1 + 1 by omega, pgo_arrow hi hss, HX.out, Nat.add_sub_cancel])
          have HOK := Lib.hid (HK.out.step (to := x) hxr.1 hxs)
          have HOG := Lib.hid (pOrd_get (to := x) hi)
          clear hq hx hj hr
          go_wp2_with fail
          go_quiet (fail)
          clear hcq hcx d1 v1 v2
          go_wp2_with fail
          go_loop [11, 12] (fun av kv => ∃ (k : Nat) (a : Int), k ≤ order.length ∧ kv = .int .i64 k ∧ av = .int .i64 a ∧ Hid (a = if x ∈ order.take k then (placeOf x order : Int) else -1)) (fun _ kv => order.length - (intOf kv).toNat)
          case atStart => exact ⟨0, -1, by omega, rfl, rfl, by simp [Hid]⟩
          case round =>
            obtain ⟨k, a, hk, rfl, rfl, ha⟩ := hrel
            by_cases hko : k < order.length
            · obtain ⟨ad2, y, e2, _, hy, hcy⟩ := P.out.ord.wr.rdI.at_ hko
              injection e2 with e2; subst e2
              have HT := Lib.hid (take_mem_at (x := x) hy)
              by_cases hyx : y = x
              · have hyx' : (y == x) = true := by simpa using hyx
                have HA2 := Lib.hid (show (k : Int) = if x ∈ order.take (k + 1) then (placeOf x order : Int) else -1 by
                  rw [if_pos (HT.out.2 (.inr hyx.symm)), placeOf_at HK.out.nodup (hyx ▸ hy)])
                clear hyx hy ha
                go_wp2_with fail
                go_round
                case rel => exact ⟨k + 1, k, by omega, by go_num, rfl, HA2.out⟩
                case measure => simp [intOf]; omega
              · have hyx' : (y == x) = false := by simpa using hyx
                have HA2 := Lib.hid (show a = if x ∈ order.take (k + 1) then (placeOf x order : Int) else -1 by
                  rw [ha.out]
                  by_cases hin : x ∈ order.take k
                  · rw [if_pos hin, if_pos (HT.out.2 (.inl hin))]
                  · rw [if_neg hin, if_neg (fun h => (HT.out.1 h).elim hin (fun e => hyx e.symm))])
                clear hyx hy ha
                go_wp2_with fail
                go_round
                case rel => exact ⟨k + 1, a, by omega, by go_num, rfl, HA2.out⟩
                case measure => simp [intOf]; omega
            · have HAA := Lib.hid (show a = if x ∈ order then (placeOf x order : Int) else -1 by rw [ha.out, List.take_of_length_le (by omega)])
              clear ha
              have s1 := P.out.str.cell 1
              simp at s1
              by_cases hin : x ∈ order
              · have ha : 0 ≤ a := by rw [HAA.out, if_pos hin]; omega
                have HN := Lib.hid (show pNum x order = a by rw [pNum_in hin, HAA.out, if_pos hin])
                have HO := Lib.hid (pOrd_in hin)
                have PQ := Lib.hid (P.out.drewN nq)
                have hPb := P.out.bel.size
                go_wp2_with (at_builtin; refine wp_app1 (by rfl) _ _ 31 2 (.int .i64 0) 8 (by rfl) Try.underlying31 info_i64 rfl w1.heap.size A' out.length c' (out.map i64) (by rfl) (by exact PQ.out.outs.alloc _) wr.heap.size (i64 a) (by rfl) (by exact new_cell _ _ _ 0) rfl (by omega) (by omega) (by simp; omega) ?_; intro g' cap w2 own2 hb2 hk2 hg2 hz2; have hS := PQ.out.addOut own2 hb2 hk2 hg2; have t1 := hS.1.cell 1; have tf1 := hS.1.frozen 1; simp at t1)
                have S2 := Lib.hid hS.2
                clear own2 hb2 hk2 hg2 hz2 hS
                go_wp2_with fail
                go_roundw
                case rel =>
                  refine ⟨s + 1, f - 1, order, out ++ [a], some ad, cc, some ⟨g', 0, none⟩, cap, rfl, by go_num, by omega, hi, HK.out, by omega, by unfold Hid; rw [List.length_append, hol.out]; simp; omega, ?_, S2.out⟩
                  have := HP1.out
                  rw [HO.out, HN.out] at this
                  exact this
                case measure => simp [intOf]; omega
              · have ha : a < 0 := by rw [HAA.out, if_neg hin]; omega
                have HN := Lib.hid (show pNum x order = order.length from pNum_new hin)
                have HO := Lib.hid (pOrd_new hin)
                have PD := Lib.hid (P.out.drewN nq)
                have hPb := P.out.bel.size
                clear s1
                go_wp2_with (at_builtin; first | (refine wp_app1 (by rfl) _ _ 31 2 (.int .i64 0) 8 (by rfl) Try.underlying31 info_i64 rfl w1.heap.size (some ad) order.length cc (order.map i64) (by rfl) (by exact PD.out.ord.alloc _) wr.heap.size (i64 x) (by rfl) (by exact new_cell _ _ _ 0) rfl (by omega) (by omega) (by simp; omega) ?_; intro g1 cap1 w3 own3 hb3 hk3 hg3 hz3; have hQ := PD.out.addOrd own3 hb3 hk3 hg3; have u1 := hQ.str.cell 1; simp at u1) | (refine wp_app1 (by rfl) _ _ 31 2 (.int .i64 0) 8 (by rfl) Try.underlying31 info_i64 rfl w1.heap.size A' out.length c' (out.map i64) (by rfl) (by exact hQ.outs.alloc _) w3.heap.size (i64 order.length) (by rfl) (by exact new_cell _ _ _ 0) rfl (by omega) (by omega) (by have := hQ.bel.size; simp; omega) ?_; intro g' cap w2 own2 hb2 hk2 hg2 hz2; have hS := hQ.addOut own2 hb2 hk2 hg2; have t1 := hS.1.cell 1; have tf1 := hS.1.frozen 1; simp at t1))
                have S2 := Lib.hid hS.2
                clear own2 hb2 hk2 hg2 hz2 hS
                go_wp2_with fail
                go_roundw
                case rel =>
                  refine ⟨s + 1, f - 1, order ++ [x], out ++ [(order.length : Int)], some ⟨g1, 0, none⟩, cap1, some ⟨g', 0, none⟩, cap, by rw [List.length_append]; rfl, by go_num, by omega, by rw [List.length_append]; omega, ?_, by omega, by unfold Hid; rw [List.length_append, hol.out]; simp; omega, ?_, S2.out⟩
                  · have := HOK.out
                    rw [HO.out] at this
                    exact this
                  · have := HP1.out
                    rw [HO.out, HN.out] at this
                    exact this
                case measure => simp [intOf]; omega
        · have hss' : ¬ (s : Int) < sym := by have := HSy.out; omega
          have HN := Lib.hid (show pruneL xs sym = pgo (nxD xs sym) syN (f - 1) (i + 1) 0 order out by rw [hr.out, show f = f - 1 + 1 by omega, pgo_next hi hss, Nat.add_sub_cancel])
          have HO := Lib.hid (show out.length = (i + 1) * syN by rw [hol.out, Nat.add_mul]; omega)
          clear hr hol
          go_wp2_with fail
          go_roundw
          case rel => exact ⟨i + 1, f - 1, order, out, C, cc, A', c', rfl, by go_num, by omega, HK.out, by omega, HO.out, HN.out, P.out⟩
          case measure => simp [intOf]; omega
    · have HN := Lib.hid (show pruneL xs sym = (order, out) by rw [hr.out, show f = f - 1 + 1 by omega, pgo_end hlt])
      have HOB := Lib.hid (show out.length ≤ 1000000 by
        have h1 := hol.out
        have h2 : i * syN ≤ 20 * 6 := Nat.mul_le_mul (by omega) (by omega)
        omega)
      have R := Lib.hid (X.out.2.below P.out.bel hl2)
      have s0 := P.out.str.cell 0; have s1 := P.out.str.cell 1; have sf0 := P.out.str.frozen 0
      have r0 := R.out.cell 0; have r1 := R.out.cell 1; have rf0 := R.out.frozen 0; have rf1 := R.out.frozen 1
      simp at s0 s1 r0 r1
      clear hr hol
      go_wp2_with fail
      refine bodyPost_ret (v := .tuple #[.agg #[.int .i64 order.length, .slice A' out.length c'], .int .i64 0]) (by simp [results, Try.results28, go_sem, r0, r1]) rfl ⟨A', out.length, c', by rw [HR.out, HN.out], ?_, HOB.out, ?_⟩
      · rw [HR.out, HN.out]
        have h1 := P.out.outs.far (p := ⟨w1.heap.size + 1, 0, none⟩) (fun ad ha => P.out.outs.ne_ P.out.str (by decide) ad ha) (.int .i64 order.length)
        have h2 := h1.far (p := ⟨w.heap.size + 1, 0, none⟩) (fun ad ha => by have := (h1.block ha).1; simp; omega) (.int .i64 order.length)
        have h3 := h2.far (p := ⟨w.heap.size + 1, 1, none⟩) (fun ad ha => by have := (h2.block ha).1; simp; omega) (.slice A' out.length c')
        exact h3.wr.wider (by omega) (Nat.le_refl _)
      · have T := B1.out.trans (P.out.bel.mono (Nat.le_of_lt hl1))
        exact (by have hzz := (T).size; repeat' (first | (with_reducible exact T) | (with_reducible refine Below.alloc ?_ ?_ _) | (with_reducible refine Below.setCell ?_ ?_ _) | (with_reducible refine below_drew ?_) | omega | (simp; done) | (simp; omega)))
end Go.Proofs.Ytplcpldbenjjgaa
