/-
  Contracts of chapter 28 (automata): ProductDfa.
-/
import Derived.Test.YtbpeagnldgefeaaC28c
import Derived.Test.YtbpeagnldgefeaaApp
namespace Go.Proofs.Ytbpeagnldgefeaa
open Go.RowKit

def prodX (st' : Int) (xs ys : List Int) (m i k t : Nat) : Int := nextOf xs ((i : Int) * (m : Int) + (t : Int)) * st' + nextOf ys ((k : Int) * (m : Int) + (t : Int))
def prodRow (st' : Int) (xs ys : List Int) (m i k t : Nat) : List Int := (List.range t).map (prodX st' xs ys m i k)
def prodBlk (st' : Int) (xs ys : List Int) (m i k : Nat) : List Int := (List.range k).flatMap fun k' => prodRow st' xs ys m i k' m
def prodAll (st' : Int) (xs ys : List Int) (m b i : Nat) : List Int := (List.range i).flatMap fun i' => prodBlk st' xs ys m i' b
def prodAcc (st' : Int) (xs ys : List Int) (m b i k t : Nat) : List Int := prodAll st' xs ys m b i ++ (prodBlk st' xs ys m i k ++ prodRow st' xs ys m i k t)
section
variable (st' : Int) (xs ys : List Int) (m b i k t : Nat)
theorem prod_in : prodAcc st' xs ys m b i k (t + 1) = prodAcc st' xs ys m b i k t ++ [prodX st' xs ys m i k t] := by simp [prodAcc, prodRow, List.range_succ]
theorem prod_mid : prodAcc st' xs ys m b i k m = prodAcc st' xs ys m b i (k + 1) 0 := by simp [prodAcc, prodBlk, prodRow, List.range_succ]
theorem prod_out : prodAcc st' xs ys m b i b 0 = prodAcc st' xs ys m b (i + 1) 0 0 := by simp [prodAcc, prodAll, prodBlk, prodRow, List.range_succ]
theorem prod_end : prodAcc st' xs ys m b i 0 0 = prodAll st' xs ys m b i := by simp [prodAcc, prodBlk, prodRow]
theorem prodRow_len : (prodRow st' xs ys m i k t).length = t := by simp [prodRow]
theorem prodBlk_len : (prodBlk st' xs ys m i k).length = k * m := by
  induction k with
  | zero => simp [prodBlk]
  | succ k ih => rw [prodBlk, List.range_succ, List.flatMap_append, List.length_append, ← prodBlk, ih]; simp [prodRow_len, Nat.add_mul]
theorem prodAll_len : (prodAll st' xs ys m b i).length = i * (b * m) := by
  induction i with
  | zero => simp [prodAll]
  | succ i ih => rw [prodAll, List.range_succ, List.flatMap_append, List.length_append, ← prodAll, ih]; simp [prodBlk_len, Nat.add_mul]
theorem prod_len : (prodAcc st' xs ys m b i k t).length = i * (b * m) + (k * m + t) := by simp [prodAcc, prodAll_len, prodBlk_len, prodRow_len]
end
theorem prod_bd {m b i k t : Nat} (hm : m ≤ 6) (hb : b ≤ 20) (hi : i ≤ 20) (hk : k ≤ 20) (ht : t ≤ 6) : i * (b * m) + (k * m + t) ≤ 3000 := by
  have h1 := Nat.mul_le_mul hb hm
  have h2 := Nat.mul_le_mul hi h1
  have h3 := Nat.mul_le_mul hk hm
  omega
def prodR (st : Int) (xs : List Int) (st' : Int) (ys : List Int) (sym : Int) : (Int × List Int) × Int :=
  if dfaB st sym xs && dfaB st' sym ys then (if 20 < st * st' then ((0, []), 5) else ((st * st', prodAll st' xs ys sym.toNat st'.toNat st.toNat), 0)) else ((0, []), 1)

/-- the memory of ProductDfa's loops -/
def ProdInv (w : World) (b8 : Nat) (st st' : Int) (A A' : Option Addr) (n c n' c' : Nat) (acc : List Int) (wr : World) : Prop :=
  ∃ C q cc, Blk wr w.heap.size 29 #[.int .i64 st, .slice A n c] ∧ Blk wr (w.heap.size + 1) 29 #[.int .i64 st', .slice A' n' c'] ∧ Blk wr (w.heap.size + 1 + 1) 29 #[.int .i64 0, .slice none 0 0] ∧
    Blk wr b8 29 #[.int .i64 (st * st'), .slice C q cc] ∧ Own wr (b8 + 1) 2 1 C q cc (acc.map i64) ∧ Below w.heap.size w wr ∧ w.heap.size + 1 + 1 < b8

set_option maxHeartbeats 4000000 in
theorem sProductDfa_c (st st' sym : Int) (A A' : Option Addr) (n c n' c' : Nat) (xs ys : List Int) (w : World) (h : RdI w A n xs) (h' : RdI w A' n' ys) (hn : n ≤ 1000000000000) (hn' : n' ≤ 1000000000000) :
    Calls Try.prog 41 #[.agg #[.int .i64 st, .slice A n c], .agg #[.int .i64 st', .slice A' n' c'], .int .i64 sym] w (DfaOut (prodR st xs st' ys sym) w) := by
  have HL := Lib.hid h.len
  have HL' := Lib.hid h'.len
  have H := Lib.hid h
  have H' := Lib.hid h'
  clear h h'
  cases hd1 : dfaB st sym xs
  · have HR := Lib.hid (show prodR st xs st' ys sym = ((0, []), 1) by simp [prodR, hd1])
    go_enter Try.func41, Try.ntmps41
    go_wp2_with fail
    refine (l28Is_c _ st _ A n c xs _ (by exact keepa _ (keepa _ (new_cell _ _ _ 0))) (by exact keepa _ (keepa _ (new_cell _ _ _ 1))) (by exact ((H.out.alloc _).alloc _).alloc _) hn).mono ?_
    rintro e w1 ⟨rfl, hq⟩
    have hb := hq.below (((w.alloc (.cells #[.int .i64 st, .slice A n c] 29)).alloc (.cells #[.int .i64 st', .slice A' n' c'] 29)).alloc (.cells #[.int .i64 0, .slice none 0 0] 29)).heap.size
    clear hq
    rw [hd1]
    have i6 : Blk w1 (w.heap.size + 1 + 1) 29 #[.int .i64 0, .slice none 0 0] := by
      have := (Blk.new ((w.alloc (.cells #[.int .i64 st, .slice A n c] 29)).alloc (.cells #[.int .i64 st', .slice A' n' c'] 29)) 29 #[.int .i64 0, .slice none 0 0]).keep hb
      simpa only [World.size_alloc] using this
    have c0 := i6.cell 0; have c1 := i6.cell 1; have f0 := i6.frozen 0; have f1 := i6.frozen 1
    simp at c0 c1
    have HB := Lib.hid (up3 hb)
    clear hb i6
    go_wp2
    exact bodyPost_ret (v := .tuple #[.agg #[.int .i64 0, .slice none 0 0], .int .i64 1]) (by simp [results, Try.results41, go_sem, c0, c1]) rfl ⟨none, 0, 0, by rw [HR.out], by rw [HR.out]; exact Wr.nil, by omega, (HB.out.setCell (by first | omega | (simp; done) | (simp; omega)) _).setCell (by first | omega | (simp; done) | (simp; omega)) _⟩
  have ok1 := Lib.hid (DfaOk.of hd1)
  cases hd2 : dfaB st' sym ys
  · have HR := Lib.hid (show prodR st xs st' ys sym = ((0, []), 1) by simp [prodR, hd2])
    go_enter Try.func41, Try.ntmps41
    go_wp2_with fail
    refine (l28Is_c _ st _ A n c xs _ (by exact keepa _ (keepa _ (new_cell _ _ _ 0))) (by exact keepa _ (keepa _ (new_cell _ _ _ 1))) (by exact ((H.out.alloc _).alloc _).alloc _) hn).mono ?_
    rintro e w1 ⟨rfl, hq⟩
    have hb := hq.below (((w.alloc (.cells #[.int .i64 st, .slice A n c] 29)).alloc (.cells #[.int .i64 st', .slice A' n' c'] 29)).alloc (.cells #[.int .i64 0, .slice none 0 0] 29)).heap.size
    clear hq
    rw [hd1]
    have i4 : Blk w1 (w.heap.size + 1) 29 #[.int .i64 st', .slice A' n' c'] := by
      have := ((Blk.new (w.alloc (.cells #[.int .i64 st, .slice A n c] 29)) 29 #[.int .i64 st', .slice A' n' c']).alloc (.cells #[.int .i64 0, .slice none 0 0] 29)).keep hb
      simpa only [World.size_alloc] using this
    have i6 : Blk w1 (w.heap.size + 1 + 1) 29 #[.int .i64 0, .slice none 0 0] := by
      have := (Blk.new ((w.alloc (.cells #[.int .i64 st, .slice A n c] 29)).alloc (.cells #[.int .i64 st', .slice A' n' c'] 29)) 29 #[.int .i64 0, .slice none 0 0]).keep hb
      simpa only [World.size_alloc] using this
    have d0 := i4.cell 0; have d1 := i4.cell 1
    simp at d0 d1
    have I6 := Lib.hid i6
    have R2 := Lib.hid (H'.out.below (up3 hb))
    have HB := Lib.hid (up3 hb)
    clear hb i4 i6
    go_wp2_with fail
    refine (l28Is_c _ st' _ A' n' c' ys _ (by exact d0) (by exact d1) (by exact R2.out) hn').mono ?_
    rintro e w2 ⟨rfl, hq⟩
    have hb2 := hq.below w1.heap.size
    clear hq
    rw [hd2]
    have c0 := (I6.out.keep hb2).cell 0; have c1 := (I6.out.keep hb2).cell 1; have f0 := (I6.out.keep hb2).frozen 0; have f1 := (I6.out.keep hb2).frozen 1
    simp at c0 c1
    have HB2 := Lib.hid (below_chain HB.out HB.out.size hb2)
    clear hb2 d0 d1
    go_wp2
    exact bodyPost_ret (v := .tuple #[.agg #[.int .i64 0, .slice none 0 0], .int .i64 1]) (by simp [results, Try.results41, go_sem, c0, c1]) rfl ⟨none, 0, 0, by rw [HR.out], by rw [HR.out]; exact Wr.nil, by omega, (HB2.out.setCell (by first | omega | (simp; done) | (simp; omega)) _).setCell (by first | omega | (simp; done) | (simp; omega)) _⟩
  have ok2 := Lib.hid (DfaOk.of hd2)
  have hsy := ok1.out.sy
  have hst := ok1.out.stt
  have hst' := ok2.out.stt
  have hss : 1 ≤ st * st' ∧ st * st' ≤ 400 := by
    have a := Int.mul_le_mul (a := 1) (b := 1) (c := st) (d := st') (by omega) (by omega) (by omega) (by omega)
    have b := Int.mul_le_mul (a := st) (b := st') (c := 20) (d := 20) (by omega) (by omega) (by omega) (by omega)
    omega
  have HR := Lib.hid (show prodR st xs st' ys sym = if 20 < st * st' then ((0, []), 5) else ((st * st', prodAll st' xs ys sym.toNat st'.toNat st.toNat), 0) by simp [prodR, hd1, hd2])
  go_enter Try.func41, Try.ntmps41
  go_wp2_with fail
  refine (l28Is_c _ st _ A n c xs _ (by exact keepa _ (keepa _ (new_cell _ _ _ 0))) (by exact keepa _ (keepa _ (new_cell _ _ _ 1))) (by exact ((H.out.alloc _).alloc _).alloc _) hn).mono ?_
  rintro e w1 ⟨rfl, hq⟩
  have hb := hq.below (((w.alloc (.cells #[.int .i64 st, .slice A n c] 29)).alloc (.cells #[.int .i64 st', .slice A' n' c'] 29)).alloc (.cells #[.int .i64 0, .slice none 0 0] 29)).heap.size
  clear hq
  rw [hd1]
  have i3 : Blk w1 w.heap.size 29 #[.int .i64 st, .slice A n c] := (((Blk.new w _ _).alloc _).alloc _).keep hb
  have i4 : Blk w1 (w.heap.size + 1) 29 #[.int .i64 st', .slice A' n' c'] := by
    have := ((Blk.new (w.alloc (.cells #[.int .i64 st, .slice A n c] 29)) 29 #[.int .i64 st', .slice A' n' c']).alloc (.cells #[.int .i64 0, .slice none 0 0] 29)).keep hb
    simpa only [World.size_alloc] using this
  have i6 : Blk w1 (w.heap.size + 1 + 1) 29 #[.int .i64 0, .slice none 0 0] := by
    have := (Blk.new ((w.alloc (.cells #[.int .i64 st, .slice A n c] 29)).alloc (.cells #[.int .i64 st', .slice A' n' c'] 29)) 29 #[.int .i64 0, .slice none 0 0]).keep hb
    simpa only [World.size_alloc] using this
  have d0 := i4.cell 0; have d1 := i4.cell 1
  simp at d0 d1
  have I3 := Lib.hid i3; have I4 := Lib.hid i4; have I6 := Lib.hid i6
  have R2 := Lib.hid (H'.out.below (up3 hb))
  have HB := Lib.hid (up3 hb)
  clear hb i3 i4 i6
  go_wp2_with fail
  refine (l28Is_c _ st' _ A' n' c' ys _ (by exact d0) (by exact d1) (by exact R2.out) hn').mono ?_
  rintro e w2 ⟨rfl, hq⟩
  have hb2 := hq.below w1.heap.size
  clear hq
  rw [hd2]
  have J3 := Lib.hid (I3.out.keep hb2); have J4 := Lib.hid (I4.out.keep hb2); have J6 := Lib.hid (I6.out.keep hb2)
  have HB2 := Lib.hid (below_chain HB.out HB.out.size hb2)
  clear hb2 d0 d1 R2 HB I3 I4 I6
  have a0 := J3.out.cell 0; have b0 := J4.out.cell 0; have ga0 := J3.out.cellA 0; have gb0 := J4.out.cellA 0
  have hz6 := J6.out.lt
  have gc0 := J6.out.cellA 0; have gc1 := J6.out.cellA 1; have gf0 := J6.out.frozenA 0; have gf1 := J6.out.frozenA 1
  have c0 := J6.out.cell 0; have c1 := J6.out.cell 1; have f0 := J6.out.frozen 0; have f1 := J6.out.frozen 1
  simp at a0 b0 ga0 gb0 gc0 gc1 c0 c1
  by_cases hbig : 20 < st * st'
  · have HF := Lib.hid (show prodR st xs st' ys sym = ((0, []), 5) by rw [HR.out, if_pos hbig])
    go_wp2
    exact bodyPost_ret (v := .tuple #[.agg #[.int .i64 0, .slice none 0 0], .int .i64 5]) (by first | (simp [results, Try.results41, go_sem, c0, c1]; done) | simp [results, Try.results41, go_sem, c0, c1, World.cell?_alloc_lt, hz6]) rfl ⟨none, 0, 0, by rw [HF.out], by rw [HF.out]; exact Wr.nil, by omega, (by have hzz := (HB2.out).size; repeat' (first | (with_reducible exact HB2.out) | (with_reducible refine Below.alloc ?_ ?_ _) | (with_reducible refine Below.setCell ?_ ?_ _) | (with_reducible refine below_drew ?_) | omega | (simp; done) | (simp; omega)))⟩
  · obtain ⟨m, rfl⟩ := Int.eq_ofNat_of_zero_le (show 0 ≤ sym by omega)
    obtain ⟨S, HS⟩ := Int.eq_ofNat_of_zero_le (show 0 ≤ st by omega)
    obtain ⟨T, HT⟩ := Int.eq_ofNat_of_zero_le (show 0 ≤ st' by omega)
    have HF := Lib.hid (show prodR st xs st' ys m = ((st * st', prodAll st' xs ys m T S), 0) by rw [HR.out, if_neg hbig, HS, HT]; rfl)
    have HSt := Lib.hid HS; have HTt := Lib.hid HT
    have hS1 : S ≤ 20 := by omega
    have hT1 : T ≤ 20 := by omega
    have hm1 : m ≤ 6 := by omega
    clear HS HT HR
    go_wp2
    clear a0 b0 ga0 gb0 gc0 gc1 gf0 gf1 c0 c1 f0 f1
    obtain ⟨b8, hb8⟩ : ∃ b8, b8 = w2.heap.size := ⟨_, rfl⟩
    rw [← hb8]
    have HI := Lib.hid (show ProdInv w b8 st st' A A' n c n' c' (prodAcc st' xs ys m T 0 0 0) (w2.alloc (.cells #[.int .i64 (st * st'), .slice none 0 0] 29)) from
      ⟨none, 0, 0, J3.out.alloc _, J4.out.alloc _, J6.out.alloc _, by rw [hb8]; exact Blk.new _ _ _, Own.nil, HB2.out.alloc HB2.out.size _, by rw [hb8]; exact hz6⟩)
    clear hb8 J3 J4 J6 HB2 hz6
    obtain ⟨wz, hwz⟩ : ∃ wz : World, wz = w2.alloc (.cells #[.int .i64 (st * st'), .slice none 0 0] 29) := ⟨_, rfl⟩
    rw [← hwz] at HI ⊢
    clear hwz
    go_loopw [9] (fun v wr => ∃ i : Nat, i ≤ S ∧ v = .int .i64 i ∧ ProdInv w b8 st st' A A' n c n' c' (prodAcc st' xs ys m T i 0 0) wr) (fun v _ => S - (intOf v).toNat)
    case atStart => exact ⟨0, by omega, rfl, HI.out⟩
    case round =>
      clear HI
      obtain ⟨i, hi, rfl, hI⟩ := hrel
      have HI := Lib.hid hI
      obtain ⟨C, q, cc, k3, k4, k6, k8, own, hb, hlt8⟩ := hI
      have a0 := k3.cell 0; have b0 := k4.cell 0
      simp at a0 b0
      by_cases hiS : i < S
      · have hiS' : (i : Int) < st := by have := HSt.out; omega
        clear k3 k4 k6 k8 own hb
        go_wp2
        clear a0 b0
        obtain ⟨wo, rfl⟩ : ∃ wo : World, wo = wr := ⟨_, rfl⟩
        go_loopw [10] (fun v wr => ∃ k : Nat, k ≤ T ∧ v = .int .i64 k ∧ ProdInv w b8 st st' A A' n c n' c' (prodAcc st' xs ys m T i k 0) wr) (fun v _ => T - (intOf v).toNat)
        case atStart => exact ⟨0, by omega, rfl, HI.out⟩
        case round =>
          clear HI
          obtain ⟨k, hk, rfl, hI⟩ := hrel
          have HI := Lib.hid hI
          obtain ⟨C, q, cc, k3, k4, k6, k8, own, hb, hlt8⟩ := hI
          have b0 := k4.cell 0
          simp at b0
          by_cases hkT : k < T
          · have hkT' : (k : Int) < st' := by have := HTt.out; omega
            clear k3 k4 k6 k8 own hb
            go_wp2
            clear b0
            obtain ⟨wp, rfl⟩ : ∃ wp : World, wp = wr := ⟨_, rfl⟩
            go_loopw [11] (fun v wr => ∃ t : Nat, t ≤ m ∧ v = .int .i64 t ∧ ProdInv w b8 st st' A A' n c n' c' (prodAcc st' xs ys m T i k t) wr) (fun v _ => m - (intOf v).toNat)
            case atStart => exact ⟨0, by omega, rfl, HI.out⟩
            case round =>
              clear HI
              obtain ⟨t, ht, rfl, hI⟩ := hrel
              have HI := Lib.hid hI
              by_cases htm : t < m
              · obtain ⟨acc, hacc⟩ : ∃ acc, acc = prodAcc st' xs ys m T i k t := ⟨_, rfl⟩
                rw [← hacc] at hI
                have HAcc := Lib.hid hacc
                have hqb : acc.length ≤ 3000 := by rw [hacc, prod_len]; exact prod_bd hm1 hT1 (by omega) (by omega) (by omega)
                obtain ⟨C, q, cc, k3, k4, k6, k8, own, hb, hlt8⟩ := hI
                have hq : q ≤ 3000 := by have := own.len; simp at this; omega
                have sa := step_bd (now := i) (s := t) hsy hst (by omega) (by omega)
                have sb := step_bd (now := k) (s := t) hsy hst' (by omega) (by omega)
                rw [← ok1.out.len, HL.out] at sa
                rw [← ok2.out.len, HL'.out] at sb
                obtain ⟨ja, hja⟩ := Int.eq_ofNat_of_zero_le sa.2.2.1
                obtain ⟨jb, hjb⟩ := Int.eq_ofNat_of_zero_le sb.2.2.1
                have hnb : n ≤ 120 := by have := ok1.out.len; have := mul_bd hsy hst; have := HL.out; omega
                have hnb' : n' ≤ 120 := by have := ok2.out.len; have := mul_bd hsy hst'; have := HL'.out; omega
                have RA := Lib.hid (H.out.below hb)
                have RB := Lib.hid (H'.out.below hb)
                obtain ⟨aa, x, rfl, hxa, hx, hcx⟩ := RA.out.at_ (show ja < n by omega)
                obtain ⟨ab, y, rfl, hya, hy, hcy⟩ := RB.out.at_ (show jb < n' by omega)
                have hxb := ok1.out.all x (List.mem_of_getElem? hx)
                have hyb := ok2.out.all y (List.mem_of_getElem? hy)
                have HX := Lib.hid hx; have HY := Lib.hid hy
                have hxs : 0 ≤ x * st' ∧ x * st' ≤ 400 := by
                  have a := Int.mul_le_mul (a := x) (b := st') (c := 20) (d := 20) (by omega) (by omega) (by omega) (by omega)
                  have b := Int.mul_nonneg hxb.1 (show 0 ≤ st' by omega)
                  omega
                have HV := Lib.hid (show prodX st' xs ys m i k t = x * st' + y by rw [prodX, hja, hjb, nextOf_at hx, nextOf_at hy])
                have hja0 : (0 : Int) ≤ (ja : Int) := by omega
                have hja1 : (ja : Int) < (n : Int) := by omega
                have hjb0 : (0 : Int) ≤ (jb : Int) := by omega
                have hjb1 : (jb : Int) < (n' : Int) := by omega
                have K3 := Lib.hid k3; have K4 := Lib.hid k4; have K6 := Lib.hid k6; have K8 := Lib.hid k8; have HO := Lib.hid own; have HB := Lib.hid hb
                have e30 := Ext.cell (k3.cell 0); have e31 := Ext.cell (k3.cell 1); have e40 := Ext.cell (k4.cell 0); have e41 := Ext.cell (k4.cell 1); have e81 := Ext.cell (k8.cell 1)
                have ex := Ext.cell hcx; have ey := Ext.cell hcy
                have hz8 := k8.lt
                clear hx hy k3 k4 k6 k8 own hb hacc HI hcx hcy
                go_wp2
                refine Mix.wp_region_mix [0, 3, 0, 3, 0, 0, 0, 0, 0, 0, 3, 0, 3, 0, 0, 3, 0, 0, 0, 0, 0, 0, 3, 0, 1, 2, 0, 2] (fun w' => ∃ x : Ext wr, w' = x.w) (by kernel_rfl) (by kernel_rfl) (InExt.drew _) ?_
                repeat (first | (refine Mix.wpMix_read (by rfl) ?_; go_big_quiet_step (fail); refine wpQuiet_nil ?_) | (refine Mix.wpMix_pure (by rfl) ?_; go_big_quiet_step (fail); refine wpQuiet_nil ?_))
                refine Mix.wpMix_chg (by rfl) (fun K hK => ?_)
                go_wp2_with fail
                refine hK _ _ ⟨⟨_, below_drew (below_size.alloc (Nat.le_refl _) _)⟩, rfl⟩ ?_
                clear hK K
                have HO1 := Lib.hid (show Own (wr.alloc (.cells #[.int .i64 (x * st' + y)] 2)).drew (b8 + 1) 2 1 C q cc (acc.map i64) from (HO.out.alloc _).drew)
                have HC := Lib.hid (show (wr.alloc (.cells #[.int .i64 (x * st' + y)] 2)).drew.cell? ⟨wr.heap.size, 0, none⟩ = some (i64 (x * st' + y)) from new_cell _ _ _ 0)
                have HE := Lib.hid (show Below wr.heap.size wr (wr.alloc (.cells #[.int .i64 (x * st' + y)] 2)).drew from below_drew (below_size.alloc (Nat.le_refl _) _))
                clear e30 e31 e40 e41 e81 ex ey
                refine Mix.wpMix_tail (by rfl) (fun K hK => ?_)
                refine wp_app1 (by rfl) _ _ 24 2 (.int .i64 0) 8 (by rfl) Try.underlying24 info_i64 rfl (b8 + 1) C q cc (acc.map i64) (by rfl) HO1.out _ (i64 (x * st' + y)) (by rfl) (by exact HC.out) rfl (by omega) (by omega) (by have := HE.out.size; omega) ?_
                intro g' cap wc own2 hb2 hk2 hg2 hz2
                have hsz := HE.out.size
                have hne : ∀ b, b < b8 + 1 → ∀ ad, C = some ad → ad.block ≠ b := fun b hb ad ha => by have := (HO.out.block ha).1; omega
                have n3 := Lib.hid (Blk.of_block (hk2 _ (by omega) (hne _ (by omega))) (K3.out.keep HE.out))
                have n4 := Lib.hid (Blk.of_block (hk2 _ (by omega) (hne _ (by omega))) (K4.out.keep HE.out))
                have n6 := Lib.hid (Blk.of_block (hk2 _ (by omega) (hne _ (by omega))) (K6.out.keep HE.out))
                have n8 : Blk wc b8 29 #[.int .i64 (st * st'), .slice C q cc] := (hk2 _ (by omega) (hne _ (by omega))).trans (K8.out.keep HE.out)
                have N8 := Lib.hid n8
                have m1 := n8.cell 1; have f1 := n8.frozen 1
                simp at m1
                have O2 := Lib.hid own2
                have HB2 := Lib.hid ((below_chain HB.out HB.out.size HE.out).trans (hb2.mono (by omega)))
                clear n8 own2 hb2 hk2 hg2 hne
                go_wp2_with fail
                refine hK _ _ ?_
                clear hK K
                repeat (first | (refine Mix.wpMix_read (by rfl) ?_; go_big_quiet_step (fail); refine wpQuiet_nil ?_) | (refine Mix.wpMix_pure (by rfl) ?_; go_big_quiet_step (fail); refine wpQuiet_nil ?_))
                refine Mix.wpMix_tail (by rfl) (fun K hK => ?_)
                go_wp2_with fail
                refine hK _ _ ?_
                clear hK K
                (refine Mix.wpMix_nil ?_; try simp only [Exit.then])
                go_wp2
                go_roundw
                case rel =>
                  refine ⟨t + 1, by omega, by go_num, some ⟨g', 0, none⟩, q + 1, cap, n3.out.far (by first | omega | (simp; done) | (simp; omega)) _, n4.out.far (by first | omega | (simp; done) | (simp; omega)) _, n6.out.far (by first | omega | (simp; done) | (simp; omega)) _, ?_, ?_, HB2.out.setCell (by first | omega | (simp; done) | (simp; omega)) _, hlt8⟩
                  · have := N8.out.set_ 1 (.slice (some ⟨g', 0, none⟩) (q + 1) cap); simpa using this
                  · rw [prod_in, ← HAcc.out, HV.out, List.map_append]
                    refine O2.out.far (fun ad ha => ?_) _
                    have := (O2.out.block ha).1
                    simp; omega
                case measure => simp [intOf]; omega
              · have HTm := Lib.hid (show t = m by omega)
                clear hI
                go_wp2
                go_roundw
                case rel => exact ⟨k + 1, by omega, by go_num, by have := HI.out; rw [HTm.out, prod_mid] at this; exact this⟩
                case measure => simp [intOf]; omega
          · have HKT := Lib.hid (show k = T by omega)
            have hkT' : ¬ (k : Int) < st' := by have := HTt.out; omega
            clear k3 k4 k6 k8 own hb
            go_wp2
            go_roundw
            case rel => exact ⟨i + 1, by omega, by go_num, by have := HI.out; rw [HKT.out, prod_out] at this; exact this⟩
            case measure => simp [intOf]; omega
      · have HIS := Lib.hid (show i = S by omega)
        have hiS' : ¬ (i : Int) < st := by have := HSt.out; omega
        have hqb : q ≤ 3000 := by have := own.len; simp [prod_len] at this; have := prod_bd hm1 hT1 (show i ≤ 20 by omega) (show 0 ≤ 20 by omega) (show 0 ≤ 6 by omega); omega
        have e0 := k8.cell 0; have e1 := k8.cell 1
        have c0 := k6.cell 0; have c1 := k6.cell 1; have f0 := k6.frozen 0; have f1 := k6.frozen 1
        simp at e0 e1 c0 c1
        have HO := Lib.hid own; have HB := Lib.hid hb
        clear k3 k4 k6 k8 own hb HI
        go_wp2
        refine bodyPost_ret (v := .tuple #[.agg #[.int .i64 (st * st'), .slice C q cc], .int .i64 0]) (by simp [results, Try.results41, go_sem, c0, c1]) rfl ⟨C, q, cc, by rw [HF.out], ?_, by omega, (HB.out.setCell (by first | omega | (simp; done) | (simp; omega)) _).setCell (by first | omega | (simp; done) | (simp; omega)) _⟩
        rw [HF.out, ← HIS.out]
        have h := HO.out.wr
        rw [prod_end] at h
        exact ((h.set_far (.inl (by simp; omega)) _).set_far (.inl (by simp; omega)) _).wider (by omega) (by simp)
set_option maxHeartbeats 4000000 in
theorem iProductDfa_c (st st' sym : Int) (A A' : Option Addr) (n c n' c' : Nat) (xs ys : List Int) (w : World) (h : RdI w A n xs) (h' : RdI w A' n' ys) (hn : n ≤ 1000000000000) (hn' : n' ≤ 1000000000000) :
    Calls Try.prog 42 #[.agg #[.int .i64 st, .slice A n c], .agg #[.int .i64 st', .slice A' n' c'], .int .i64 sym] w (DfaOut (prodR st xs st' ys sym) w) := by
  have HL := Lib.hid h.len
  have HL' := Lib.hid h'.len
  have H := Lib.hid h
  have H' := Lib.hid h'
  clear h h'
  cases hd1 : dfaB st sym xs
  · have HR := Lib.hid (show prodR st xs st' ys sym = ((0, []), 1) by simp [prodR, hd1])
    go_enter Try.func42, Try.ntmps42
    go_wp2_with fail
    refine (iValidDfa_c st _ A n c xs _ (by exact ((H.out.alloc _).alloc _).alloc _) hn).mono ?_
    rintro e w1 ⟨rfl, hb⟩
    rw [hd1]
    have i6 : Blk w1 (w.heap.size + 1 + 1) 29 #[.int .i64 0, .slice none 0 0] := by
      have := (Blk.new ((w.alloc (.cells #[.int .i64 st, .slice A n c] 29)).alloc (.cells #[.int .i64 st', .slice A' n' c'] 29)) 29 #[.int .i64 0, .slice none 0 0]).keep hb
      simpa only [World.size_alloc] using this
    have c0 := i6.cell 0; have c1 := i6.cell 1; have f0 := i6.frozen 0; have f1 := i6.frozen 1
    simp at c0 c1
    have HB := Lib.hid (up3 hb)
    clear hb i6
    go_wp2
    exact bodyPost_ret (v := .tuple #[.agg #[.int .i64 0, .slice none 0 0], .int .i64 1]) (by simp [results, Try.results42, go_sem, c0, c1]) rfl ⟨none, 0, 0, by rw [HR.out], by rw [HR.out]; exact Wr.nil, by omega, (HB.out.setCell (by first | omega | (simp; done) | (simp; omega)) _).setCell (by first | omega | (simp; done) | (simp; omega)) _⟩
  have ok1 := Lib.hid (DfaOk.of hd1)
  cases hd2 : dfaB st' sym ys
  · have HR := Lib.hid (show prodR st xs st' ys sym = ((0, []), 1) by simp [prodR, hd2])
    go_enter Try.func42, Try.ntmps42
    go_wp2_with fail
    refine (iValidDfa_c st _ A n c xs _ (by exact ((H.out.alloc _).alloc _).alloc _) hn).mono ?_
    rintro e w1 ⟨rfl, hb⟩
    rw [hd1]
    have i4 : Blk w1 (w.heap.size + 1) 29 #[.int .i64 st', .slice A' n' c'] := by
      have := ((Blk.new (w.alloc (.cells #[.int .i64 st, .slice A n c] 29)) 29 #[.int .i64 st', .slice A' n' c']).alloc (.cells #[.int .i64 0, .slice none 0 0] 29)).keep hb
      simpa only [World.size_alloc] using this
    have i6 : Blk w1 (w.heap.size + 1 + 1) 29 #[.int .i64 0, .slice none 0 0] := by
      have := (Blk.new ((w.alloc (.cells #[.int .i64 st, .slice A n c] 29)).alloc (.cells #[.int .i64 st', .slice A' n' c'] 29)) 29 #[.int .i64 0, .slice none 0 0]).keep hb
      simpa only [World.size_alloc] using this
    have d0 := i4.cell 0; have d1 := i4.cell 1
    simp at d0 d1
    have I6 := Lib.hid i6
    have R2 := Lib.hid (H'.out.below (up3 hb))
    have HB := Lib.hid (up3 hb)
    clear hb i4 i6
    go_wp2_with fail
    refine (iValidDfa_c st' _ A' n' c' ys _ (by exact R2.out) hn').mono ?_
    rintro e w2 ⟨rfl, hb2⟩
    rw [hd2]
    have c0 := (I6.out.keep hb2).cell 0; have c1 := (I6.out.keep hb2).cell 1; have f0 := (I6.out.keep hb2).frozen 0; have f1 := (I6.out.keep hb2).frozen 1
    simp at c0 c1
    have HB2 := Lib.hid (below_chain HB.out HB.out.size hb2)
    clear hb2 d0 d1
    go_wp2
    exact bodyPost_ret (v := .tuple #[.agg #[.int .i64 0, .slice none 0 0], .int .i64 1]) (by simp [results, Try.results42, go_sem, c0, c1]) rfl ⟨none, 0, 0, by rw [HR.out], by rw [HR.out]; exact Wr.nil, by omega, (HB2.out.setCell (by first | omega | (simp; done) | (simp; omega)) _).setCell (by first | omega | (simp; done) | (simp; omega)) _⟩
  have ok2 := Lib.hid (DfaOk.of hd2)
  have hsy := ok1.out.sy
  have hst := ok1.out.stt
  have hst' := ok2.out.stt
  have hss : 1 ≤ st * st' ∧ st * st' ≤ 400 := by
    have a := Int.mul_le_mul (a := 1) (b := 1) (c := st) (d := st') (by omega) (by omega) (by omega) (by omega)
    have b := Int.mul_le_mul (a := st) (b := st') (c := 20) (d := 20) (by omega) (by omega) (by omega) (by omega)
    omega
  have HR := Lib.hid (show prodR st xs st' ys sym = if 20 < st * st' then ((0, []), 5) else ((st * st', prodAll st' xs ys sym.toNat st'.toNat st.toNat), 0) by simp [prodR, hd1, hd2])
  go_enter Try.func42, Try.ntmps42
  go_wp2_with fail
  refine (iValidDfa_c st _ A n c xs _ (by exact ((H.out.alloc _).alloc _).alloc _) hn).mono ?_
  rintro e w1 ⟨rfl, hb⟩
  rw [hd1]
  have i3 : Blk w1 w.heap.size 29 #[.int .i64 st, .slice A n c] := (((Blk.new w _ _).alloc _).alloc _).keep hb
  have i4 : Blk w1 (w.heap.size + 1) 29 #[.int .i64 st', .slice A' n' c'] := by
    have := ((Blk.new (w.alloc (.cells #[.int .i64 st, .slice A n c] 29)) 29 #[.int .i64 st', .slice A' n' c']).alloc (.cells #[.int .i64 0, .slice none 0 0] 29)).keep hb
    simpa only [World.size_alloc] using this
  have i6 : Blk w1 (w.heap.size + 1 + 1) 29 #[.int .i64 0, .slice none 0 0] := by
    have := (Blk.new ((w.alloc (.cells #[.int .i64 st, .slice A n c] 29)).alloc (.cells #[.int .i64 st', .slice A' n' c'] 29)) 29 #[.int .i64 0, .slice none 0 0]).keep hb
    simpa only [World.size_alloc] using this
  have d0 := i4.cell 0; have d1 := i4.cell 1
  simp at d0 d1
  have I3 := Lib.hid i3; have I4 := Lib.hid i4; have I6 := Lib.hid i6
  have R2 := Lib.hid (H'.out.below (up3 hb))
  have HB := Lib.hid (up3 hb)
  clear hb i3 i4 i6
  go_wp2_with fail
  refine (iValidDfa_c st' _ A' n' c' ys _ (by exact R2.out) hn').mono ?_
  rintro e w2 ⟨rfl, hb2⟩
  rw [hd2]
  have J3 := Lib.hid (I3.out.keep hb2); have J4 := Lib.hid (I4.out.keep hb2); have J6 := Lib.hid (I6.out.keep hb2)
  have HB2 := Lib.hid (below_chain HB.out HB.out.size hb2)
  clear hb2 d0 d1 R2 HB I3 I4 I6
  have a0 := J3.out.cell 0; have b0 := J4.out.cell 0; have ga0 := J3.out.cellA 0; have gb0 := J4.out.cellA 0
  have hz6 := J6.out.lt
  have gc0 := J6.out.cellA 0; have gc1 := J6.out.cellA 1; have gf0 := J6.out.frozenA 0; have gf1 := J6.out.frozenA 1
  have c0 := J6.out.cell 0; have c1 := J6.out.cell 1; have f0 := J6.out.frozen 0; have f1 := J6.out.frozen 1
  simp at a0 b0 ga0 gb0 gc0 gc1 c0 c1
  by_cases hbig : 20 < st * st'
  · have HF := Lib.hid (show prodR st xs st' ys sym = ((0, []), 5) by rw [HR.out, if_pos hbig])
    go_wp2
    exact bodyPost_ret (v := .tuple #[.agg #[.int .i64 0, .slice none 0 0], .int .i64 5]) (by first | (simp [results, Try.results42, go_sem, c0, c1]; done) | simp [results, Try.results42, go_sem, c0, c1, World.cell?_alloc_lt, hz6]) rfl ⟨none, 0, 0, by rw [HF.out], by rw [HF.out]; exact Wr.nil, by omega, (by have hzz := (HB2.out).size; repeat' (first | (with_reducible exact HB2.out) | (with_reducible refine Below.alloc ?_ ?_ _) | (with_reducible refine Below.setCell ?_ ?_ _) | (with_reducible refine below_drew ?_) | omega | (simp; done) | (simp; omega)))⟩
  · obtain ⟨m, rfl⟩ := Int.eq_ofNat_of_zero_le (show 0 ≤ sym by omega)
    obtain ⟨S, HS⟩ := Int.eq_ofNat_of_zero_le (show 0 ≤ st by omega)
    obtain ⟨T, HT⟩ := Int.eq_ofNat_of_zero_le (show 0 ≤ st' by omega)
    have HF := Lib.hid (show prodR st xs st' ys m = ((st * st', prodAll st' xs ys m T S), 0) by rw [HR.out, if_neg hbig, HS, HT]; rfl)
    have HSt := Lib.hid HS; have HTt := Lib.hid HT
    have hS1 : S ≤ 20 := by omega
    have hT1 : T ≤ 20 := by omega
    have hm1 : m ≤ 6 := by omega
    clear HS HT HR
    go_wp2
    clear a0 b0 ga0 gb0 gc0 gc1 gf0 gf1 c0 c1 f0 f1
    obtain ⟨b8, hb8⟩ : ∃ b8, b8 = w2.heap.size := ⟨_, rfl⟩
    rw [← hb8]
    have HI := Lib.hid (show ProdInv w b8 st st' A A' n c n' c' (prodAcc st' xs ys m T 0 0 0) (w2.alloc (.cells #[.int .i64 (st * st'), .slice none 0 0] 29)) from
      ⟨none, 0, 0, J3.out.alloc _, J4.out.alloc _, J6.out.alloc _, by rw [hb8]; exact Blk.new _ _ _, Own.nil, HB2.out.alloc HB2.out.size _, by rw [hb8]; exact hz6⟩)
    clear hb8 J3 J4 J6 HB2 hz6
    obtain ⟨wz, hwz⟩ : ∃ wz : World, wz = w2.alloc (.cells #[.int .i64 (st * st'), .slice none 0 0] 29) := ⟨_, rfl⟩
    rw [← hwz] at HI ⊢
    clear hwz
    go_loopw [38] (fun v wr => ∃ i : Nat, i ≤ S ∧ v = .int .i64 i ∧ ProdInv w b8 st st' A A' n c n' c' (prodAcc st' xs ys m T i 0 0) wr) (fun v _ => S - (intOf v).toNat)
    case atStart => exact ⟨0, by omega, rfl, HI.out⟩
    case round =>
      clear HI
      obtain ⟨i, hi, rfl, hI⟩ := hrel
      have HI := Lib.hid hI
      obtain ⟨C, q, cc, k3, k4, k6, k8, own, hb, hlt8⟩ := hI
      have a0 := k3.cell 0; have b0 := k4.cell 0
      simp at a0 b0
      by_cases hiS : i < S
      · have hiS' : (i : Int) < st := by have := HSt.out; omega
        clear k3 k4 k6 k8 own hb
        go_wp2
        clear a0 b0
        obtain ⟨wo, rfl⟩ : ∃ wo : World, wo = wr := ⟨_, rfl⟩
        go_loopw [43] (fun v wr => ∃ k : Nat, k ≤ T ∧ v = .int .i64 k ∧ ProdInv w b8 st st' A A' n c n' c' (prodAcc st' xs ys m T i k 0) wr) (fun v _ => T - (intOf v).toNat)
        case atStart => exact ⟨0, by omega, rfl, HI.out⟩
        case round =>
          clear HI
          obtain ⟨k, hk, rfl, hI⟩ := hrel
          have HI := Lib.hid hI
          obtain ⟨C, q, cc, k3, k4, k6, k8, own, hb, hlt8⟩ := hI
          have b0 := k4.cell 0
          simp at b0
          by_cases hkT : k < T
          · have hkT' : (k : Int) < st' := by have := HTt.out; omega
            clear k3 k4 k6 k8 own hb
            go_wp2
            clear b0
            obtain ⟨wp, rfl⟩ : ∃ wp : World, wp = wr := ⟨_, rfl⟩
            go_loopw [47] (fun v wr => ∃ t : Nat, t ≤ m ∧ v = .int .i64 t ∧ ProdInv w b8 st st' A A' n c n' c' (prodAcc st' xs ys m T i k t) wr) (fun v _ => m - (intOf v).toNat)
            case atStart => exact ⟨0, by omega, rfl, HI.out⟩
            case round =>
              clear HI
              obtain ⟨t, ht, rfl, hI⟩ := hrel
              have HI := Lib.hid hI
              by_cases htm : t < m
              · obtain ⟨acc, hacc⟩ : ∃ acc, acc = prodAcc st' xs ys m T i k t := ⟨_, rfl⟩
                rw [← hacc] at hI
                have HAcc := Lib.hid hacc
                have hqb : acc.length ≤ 3000 := by rw [hacc, prod_len]; exact prod_bd hm1 hT1 (by omega) (by omega) (by omega)
                obtain ⟨C, q, cc, k3, k4, k6, k8, own, hb, hlt8⟩ := hI
                have hq : q ≤ 3000 := by have := own.len; simp at this; omega
                have sa := step_bd (now := i) (s := t) hsy hst (by omega) (by omega)
                have sb := step_bd (now := k) (s := t) hsy hst' (by omega) (by omega)
                rw [← ok1.out.len, HL.out] at sa
                rw [← ok2.out.len, HL'.out] at sb
                obtain ⟨ja, hja⟩ := Int.eq_ofNat_of_zero_le sa.2.2.1
                obtain ⟨jb, hjb⟩ := Int.eq_ofNat_of_zero_le sb.2.2.1
                have hnb : n ≤ 120 := by have := ok1.out.len; have := mul_bd hsy hst; have := HL.out; omega
                have hnb' : n' ≤ 120 := by have := ok2.out.len; have := mul_bd hsy hst'; have := HL'.out; omega
                have RA := Lib.hid (H.out.below hb)
                have RB := Lib.hid (H'.out.below hb)
                obtain ⟨aa, x, rfl, hxa, hx, hcx⟩ := RA.out.at_ (show ja < n by omega)
                obtain ⟨ab, y, rfl, hya, hy, hcy⟩ := RB.out.at_ (show jb < n' by omega)
                have hxb := ok1.out.all x (List.mem_of_getElem? hx)
                have hyb := ok2.out.all y (List.mem_of_getElem? hy)
                have HX := Lib.hid hx; have HY := Lib.hid hy
                have hxs : 0 ≤ x * st' ∧ x * st' ≤ 400 := by
                  have a := Int.mul_le_mul (a := x) (b := st') (c := 20) (d := 20) (by omega) (by omega) (by omega) (by omega)
                  have b := Int.mul_nonneg hxb.1 (show 0 ≤ st' by omega)
                  omega
                have HV := Lib.hid (show prodX st' xs ys m i k t = x * st' + y by rw [prodX, hja, hjb, nextOf_at hx, nextOf_at hy])
                have hja0 : (0 : Int) ≤ (ja : Int) := by omega
                have hja1 : (ja : Int) < (n : Int) := by omega
                have hjb0 : (0 : Int) ≤ (jb : Int) := by omega
                have hjb1 : (jb : Int) < (n' : Int) := by omega
                have K3 := Lib.hid k3; have K4 := Lib.hid k4; have K6 := Lib.hid k6; have K8 := Lib.hid k8; have HO := Lib.hid own; have HB := Lib.hid hb
                have e30 := Ext.cell (k3.cell 0); have e31 := Ext.cell (k3.cell 1); have e40 := Ext.cell (k4.cell 0); have e41 := Ext.cell (k4.cell 1); have e81 := Ext.cell (k8.cell 1)
                have ex := Ext.cell hcx; have ey := Ext.cell hcy
                have hz8 := k8.lt
                clear hx hy k3 k4 k6 k8 own hb hacc HI hcx hcy
                go_wp2
                refine Mix.wp_region_mix [0, 3, 3, 0, 0, 0, 1, 0, 3, 0, 3, 0, 0, 0, 1, 0, 1, 2, 0, 2] (fun w' => ∃ x : Ext wr, w' = x.w) (by kernel_rfl) (by kernel_rfl) (InExt.drew _) ?_
                repeat (first | (refine Mix.wpMix_read (by rfl) ?_; go_big_quiet_step (fail); refine wpQuiet_nil ?_) | (refine Mix.wpMix_pure (by rfl) ?_; go_big_quiet_step (fail); refine wpQuiet_nil ?_))
                refine Mix.wpMix_chg (by rfl) (fun K hK => ?_)
                go_wp2_with fail
                refine (dfaTo_c _ _ _ _ xs _ _ _ _ (by exact RA.out) (by omega) (by omega) (by omega) (by omega) (by omega)).mono ?_
                rintro e wa ⟨rfl, hba⟩
                have ea := below_of_drew hba
                rw [hja, nextOf_at HX.out]
                go_wp2_with fail
                refine hK _ _ ⟨⟨_, ea⟩, rfl⟩ ?_
                clear hK K
                repeat (first | (refine Mix.wpMix_read (by rfl) ?_; go_big_quiet_step (fail); refine wpQuiet_nil ?_) | (refine Mix.wpMix_pure (by rfl) ?_; go_big_quiet_step (fail); refine wpQuiet_nil ?_))
                refine Mix.wpMix_chg (by rfl) (fun K hK => ?_)
                go_wp2_with fail
                refine (dfaTo_c _ _ _ _ ys _ _ _ _ (by exact RB.out.below ea) (by omega) (by omega) (by omega) (by omega) (by omega)).mono ?_
                rintro e wb ⟨rfl, hbb⟩
                have eb := below_chain ea ea.size hbb
                rw [hjb, nextOf_at HY.out]
                go_wp2_with fail
                refine hK _ _ ⟨⟨_, eb⟩, rfl⟩ ?_
                clear hK K
                repeat (first | (refine Mix.wpMix_read (by rfl) ?_; go_big_quiet_step (fail); refine wpQuiet_nil ?_) | (refine Mix.wpMix_pure (by rfl) ?_; go_big_quiet_step (fail); refine wpQuiet_nil ?_))
                refine Mix.wpMix_chg (by rfl) (fun K hK => ?_)
                go_wp2_with fail
                refine hK _ _ ⟨⟨_, below_chain eb eb.size (below_size.alloc (Nat.le_refl _) _)⟩, rfl⟩ ?_
                clear hK K
                have HO1 := Lib.hid (show Own (wb.alloc (.cells #[.int .i64 (x * st' + y)] 2)) (b8 + 1) 2 1 C q cc (acc.map i64) from (HO.out.keep eb).alloc _)
                have HC := Lib.hid (show (wb.alloc (.cells #[.int .i64 (x * st' + y)] 2)).cell? ⟨wb.heap.size, 0, none⟩ = some (i64 (x * st' + y)) from new_cell _ _ _ 0)
                have HE := Lib.hid (show Below wr.heap.size wr (wb.alloc (.cells #[.int .i64 (x * st' + y)] 2)) from below_chain eb eb.size (below_size.alloc (Nat.le_refl _) _))
                clear e30 e31 e40 e41 e81 ex ey
                refine Mix.wpMix_tail (by rfl) (fun K hK => ?_)
                refine wp_app1 (by rfl) _ _ 24 2 (.int .i64 0) 8 (by rfl) Try.underlying24 info_i64 rfl (b8 + 1) C q cc (acc.map i64) (by rfl) HO1.out _ (i64 (x * st' + y)) (by rfl) (by exact HC.out) rfl (by omega) (by omega) (by have := HE.out.size; omega) ?_
                intro g' cap wc own2 hb2 hk2 hg2 hz2
                have hsz := HE.out.size
                have hne : ∀ b, b < b8 + 1 → ∀ ad, C = some ad → ad.block ≠ b := fun b hb ad ha => by have := (HO.out.block ha).1; omega
                have n3 := Lib.hid (Blk.of_block (hk2 _ (by omega) (hne _ (by omega))) (K3.out.keep HE.out))
                have n4 := Lib.hid (Blk.of_block (hk2 _ (by omega) (hne _ (by omega))) (K4.out.keep HE.out))
                have n6 := Lib.hid (Blk.of_block (hk2 _ (by omega) (hne _ (by omega))) (K6.out.keep HE.out))
                have n8 : Blk wc b8 29 #[.int .i64 (st * st'), .slice C q cc] := (hk2 _ (by omega) (hne _ (by omega))).trans (K8.out.keep HE.out)
                have N8 := Lib.hid n8
                have m1 := n8.cell 1; have f1 := n8.frozen 1
                simp at m1
                have O2 := Lib.hid own2
                have HB2 := Lib.hid ((below_chain HB.out HB.out.size HE.out).trans (hb2.mono (by omega)))
                clear n8 own2 hb2 hk2 hg2 hne
                go_wp2_with fail
                refine hK _ _ ?_
                clear hK K
                repeat (first | (refine Mix.wpMix_read (by rfl) ?_; go_big_quiet_step (fail); refine wpQuiet_nil ?_) | (refine Mix.wpMix_pure (by rfl) ?_; go_big_quiet_step (fail); refine wpQuiet_nil ?_))
                refine Mix.wpMix_tail (by rfl) (fun K hK => ?_)
                go_wp2_with fail
                refine hK _ _ ?_
                clear hK K
                (refine Mix.wpMix_nil ?_; try simp only [Exit.then])
                go_wp2
                go_roundw
                case rel =>
                  refine ⟨t + 1, by omega, by go_num, some ⟨g', 0, none⟩, q + 1, cap, n3.out.far (by first | omega | (simp; done) | (simp; omega)) _, n4.out.far (by first | omega | (simp; done) | (simp; omega)) _, n6.out.far (by first | omega | (simp; done) | (simp; omega)) _, ?_, ?_, HB2.out.setCell (by first | omega | (simp; done) | (simp; omega)) _, hlt8⟩
                  · have := N8.out.set_ 1 (.slice (some ⟨g', 0, none⟩) (q + 1) cap); simpa using this
                  · rw [prod_in, ← HAcc.out, HV.out, List.map_append]
                    refine O2.out.far (fun ad ha => ?_) _
                    have := (O2.out.block ha).1
                    simp; omega
                case measure => simp [intOf]; omega
              · have HTm := Lib.hid (show t = m by omega)
                clear hI
                go_wp2
                go_roundw
                case rel => exact ⟨k + 1, by omega, by go_num, by have := HI.out; rw [HTm.out, prod_mid] at this; exact this⟩
                case measure => simp [intOf]; omega
          · have HKT := Lib.hid (show k = T by omega)
            have hkT' : ¬ (k : Int) < st' := by have := HTt.out; omega
            clear k3 k4 k6 k8 own hb
            go_wp2
            go_roundw
            case rel => exact ⟨i + 1, by omega, by go_num, by have := HI.out; rw [HKT.out, prod_out] at this; exact this⟩
            case measure => simp [intOf]; omega
      · have HIS := Lib.hid (show i = S by omega)
        have hiS' : ¬ (i : Int) < st := by have := HSt.out; omega
        have hqb : q ≤ 3000 := by have := own.len; simp [prod_len] at this; have := prod_bd hm1 hT1 (show i ≤ 20 by omega) (show 0 ≤ 20 by omega) (show 0 ≤ 6 by omega); omega
        have e0 := k8.cell 0; have e1 := k8.cell 1
        have c0 := k6.cell 0; have c1 := k6.cell 1; have f0 := k6.frozen 0; have f1 := k6.frozen 1
        simp at e0 e1 c0 c1
        have HO := Lib.hid own; have HB := Lib.hid hb
        clear k3 k4 k6 k8 own hb HI
        go_wp2
        refine bodyPost_ret (v := .tuple #[.agg #[.int .i64 (st * st'), .slice C q cc], .int .i64 0]) (by simp [results, Try.results42, go_sem, c0, c1]) rfl ⟨C, q, cc, by rw [HF.out], ?_, by omega, (HB.out.setCell (by first | omega | (simp; done) | (simp; omega)) _).setCell (by first | omega | (simp; done) | (simp; omega)) _⟩
        rw [HF.out, ← HIS.out]
        have h := HO.out.wr
        rw [prod_end] at h
        exact ((h.set_far (.inl (by simp; omega)) _).set_far (.inl (by simp; omega)) _).wider (by omega) (by simp)
end Go.Proofs.Ytbpeagnldgefeaa
