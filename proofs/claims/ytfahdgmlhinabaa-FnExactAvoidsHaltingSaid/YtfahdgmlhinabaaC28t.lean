/-
  Contracts of chapter 28 (automata): the abstractions to which one leads, in the program.
-/
import Derived.Test.YtfahdgmlhinabaaC28s
import Derived.Laws.EntriesVeiled
namespace Go.Proofs.Ytfahdgmlhinabaa
open Go.RowKit

theorem RdU.lowB {w w' : World} {B n : Nat} {A : Option Addr} {vs : List Value} (h : RdU w B A n vs) (hb : Below B w w') (hs : w.heap.size ≤ w'.heap.size) : RdU w' B A n vs :=
  ⟨⟨h.1.1, fun hn => by
    obtain ⟨ad, e, h1, hc⟩ := h.1.2 hn
    exact ⟨ad, e, by omega, fun j u hj => keepB hb (by rw [block_add]; exact h.2 ad hn e) (hc j u hj)⟩⟩, h.2⟩
set_option maxHeartbeats 2000000 in
theorem visit1_c (B gm g5 g2 gv g9 g8 : Nat) (l : List Nd) (u0 p q t u' t' : Int) (w : World) (h : FdS w B gm g5 g2 l) (hl : l.length ≤ 100000) (hv : Blk w gv 171 #[.func (.func 131) #[] #[.pointer (some ⟨g5, 0, none⟩), .pointer (some ⟨g2, 0, none⟩)]])
    (h9 : Blk w g9 2 #[i64 u0]) (h8 : Blk w g8 142 #[i64 p, i64 q, i64 t]) :
    Calls Try.prog 155 #[.int .i64 u', .int .i64 t', .pointer (some ⟨gv, 0, none⟩), .pointer (some ⟨g9, 0, none⟩), .pointer (some ⟨g8, 0, none⟩)] w fun e w' => e = .returned (.tuple #[]) ∧ FdS w' B gm g5 g2 (addN l (u0, t, t', u')) ∧ FK B g2 w w' := by
  have HC := Lib.hid (find_c B gm g5 g2 l (u0, t, t', u') w h hl)
  have c0 := hv.cell 0; have c1 := h9.cell 0; have c2 := h8.cell 2
  simp at c0 c1 c2
  clear h hv h9 h8
  go_enter Try.func155, Try.ntmps155
  go_wp2_with fail
  refine HC.out.mono ?_
  rintro e w' ⟨rfl, hf, hk⟩
  have HF := Lib.hid hf; have HK := Lib.hid hk
  clear hf hk HC
  go_wp2_with fail
  go_end0
  exact ⟨rfl, HF.out, HK.out⟩
set_option maxHeartbeats 4000000 in
set_option maxRecDepth 100000 in
theorem origins1_c (B gm g5 g2 gv g9 g8 : Nat) (l : List Nd) (u0 p q t to sy sl : Int) (A : Option Addr) (n c : Nat) (xs : List Int) (w : World) (h : FdS w B gm g5 g2 l) (hl : l.length ≤ 50000) (hv : Blk w gv 171 #[.func (.func 131) #[] #[.pointer (some ⟨g5, 0, none⟩), .pointer (some ⟨g2, 0, none⟩)]])
    (h9 : Blk w g9 2 #[i64 u0]) (h8 : Blk w g8 142 #[i64 p, i64 q, i64 t]) (hne : gv ≠ g2 ∧ g9 ≠ g2 ∧ g8 ≠ g2) (hx : RdU w B A n (xs.map i64)) (hn : n ≤ 1000) (hsy : 2 ≤ sy ∧ sy ≤ 6) :
    Calls Try.prog 154 #[.agg #[.int .i64 sl, .slice A n c], .int .i64 to, .int .i64 sy, .func (.func 155) #[] #[.pointer (some ⟨gv, 0, none⟩), .pointer (some ⟨g9, 0, none⟩), .pointer (some ⟨g8, 0, none⟩)]] w fun e w' => e = .returned (.tuple #[]) ∧ FdS w' B gm g5 g2 (((orig sy to 0 xs).map (fun p => (u0, t, p.2, p.1))).foldl addN l) ∧ FK B g2 w w' := by
  have HXL := Lib.hid (show xs.length = n by have := hx.1.1; simpa using this)
  obtain ⟨L, hL⟩ : ∃ L, ((orig sy to 0 xs).map (fun p => (u0, t, p.2, p.1))).foldl addN l = L := ⟨_, rfl⟩
  have HL := Lib.hid hL
  rw [hL]
  obtain ⟨w0, hw0⟩ : ∃ w0, w.alloc (.cells #[.int .i64 sl, .slice A n c] 61) = w0 := ⟨_, rfl⟩
  have B0 := Lib.hid (show Below w.heap.size w w0 by rw [← hw0]; exact below_size.alloc (Nat.le_refl _) _)
  have hBw : B ≤ w.heap.size := by have := h.hB; have := h.lt; omega
  have F0 := Lib.hid (h.keep B0.out); have K0 := Lib.hid (FK.of (g2 := g2) B0.out hBw)
  have X0 := Lib.hid (hx.below B0.out)
  have V0 := Lib.hid (hv.keep B0.out); have N0 := Lib.hid (h9.keep B0.out); have R0 := Lib.hid (h8.keep B0.out)
  clear h hv h9 h8 hx hL
  have x1 : w0.cell? ⟨w.heap.size, 1, none⟩ = some (.slice A n c) := by rw [← hw0]; exact new_cell _ _ _ 1
  go_enter Try.func154, Try.ntmps154
  go_wp2_with fail
  clear hw0 x1
  go_loopw [13] (fun iv wr => ∃ (k : Nat) (l' : List Nd), k ≤ n ∧ iv = .int .i64 k ∧ Hid (((orig sy to k (xs.drop k)).map (fun p => (u0, t, p.2, p.1))).foldl addN l' = L) ∧ l'.length ≤ l.length + k ∧ Hid (FdS wr B gm g5 g2 l') ∧ Hid (FK B g2 w0 wr)) (fun iv _ => n - (intOf iv).toNat)
  case atStart => exact ⟨0, l, by omega, rfl, HL.out, by omega, F0.out, FK.refl _ _ _⟩
  case round =>
    obtain ⟨k, l', hk, rfl, hgo, hll, hF, hfk⟩ := hrel
    by_cases hlt : k < n
    · have XR := X0.out.lowB hfk.out.below hfk.out.size
      obtain ⟨ad, v, rfl, had, hv, hc⟩ := RdI.at_ (show RdI wr A n xs from XR.1) hlt
      have HS := Lib.hid (show (((if v = to then [((k : Int) / sy, (k : Int) % sy)] else []) ++ orig sy to (k + 1) (xs.drop (k + 1))).map (fun p => (u0, t, p.2, p.1))).foldl addN l' = L by rw [← orig_round hv]; exact hgo.out)
      clear hgo hv XR
      by_cases hvt : v = to
      · have kv : (v == to) = true := by simpa using hvt
        have HS2 := Lib.hid (show ((orig sy to (k + 1) (xs.drop (k + 1))).map (fun p => (u0, t, p.2, p.1))).foldl addN (addN l' (u0, t, (k : Int) % sy, (k : Int) / sy)) = L by rw [← HS.out, if_pos hvt]; rfl)
        have VR := hfk.out.blk _ _ _ V0.out (by decide) hne.1; have NR := hfk.out.blk _ _ _ N0.out (by decide) hne.2.1; have RR := hfk.out.blk _ _ _ R0.out (by decide) hne.2.2
        have HC := Lib.hid (visit1_c B gm g5 g2 gv g9 g8 l' u0 p q t ((k : Int) / sy) ((k : Int) % sy) wr.drew (FdS.keep hF.out (below_drew below_size)) (by omega) VR.drew NR.drew RR.drew)
        have v1 : wrap64 ((k : Int) / sy) = (k : Int) / sy := by unfold wrap64; have := div_bd (k := k) (n := n) hsy hlt (by omega); omega
        have hal : (addN l' (u0, t, (k : Int) % sy, (k : Int) / sy)).length ≤ l'.length + 1 := by unfold addN; split <;> simp
        have HAL := Lib.hid hal
        clear hvt HS VR NR RR hal
        go_wp2_with fail
        refine Mix.wp_region_mix [0, 0, 0, 0, 0, 0, 0, 2] (fun w' => ∃ x : Ext wr, w' = x.w) (by kernel_rfl) (by kernel_rfl) (InExt.drew _) ?_
        repeat (first | (refine Mix.wpMix_read (by rfl) ?_; go_big_quiet_step (fail); refine wpQuiet_nil ?_) | (refine Mix.wpMix_pure (by rfl) ?_; go_big_quiet_step (fail); refine wpQuiet_nil ?_))
        refine Mix.wpMix_tail (by rfl) (fun K hK => ?_)
        go_wp2_with fail
        refine HC.out.mono ?_
        rintro e w' ⟨rfl, hf, hk'⟩
        have HF := Lib.hid hf; have HK := Lib.hid (hfk.out.trans ((FK.of (g2 := g2) (below_drew below_size) (by have := hF.out.hB; have := hF.out.lt; omega)).trans hk'))
        clear hf hk' HC v1
        go_wp2_with fail
        refine hK _ _ ?_
        clear hK K
        (refine Mix.wpMix_nil ?_; try simp only [Exit.then])
        go_wp2_with fail
        go_roundw
        case rel => exact ⟨k + 1, addN l' (u0, t, (k : Int) % sy, (k : Int) / sy), by omega, by go_num, HS2.out, by have := HAL.out; omega, HF.out, HK.out⟩
        case measure => simp [intOf]; omega
      · have kv : (v == to) = false := by simpa using hvt
        have HS2 := Lib.hid (show ((orig sy to (k + 1) (xs.drop (k + 1))).map (fun p => (u0, t, p.2, p.1))).foldl addN l' = L by rw [← HS.out, if_neg hvt]; rfl)
        clear hvt HS
        go_wp2_with fail
        go_roundw
        case rel => exact ⟨k + 1, l', by omega, by go_num, HS2.out, by omega, hF.out, hfk.out⟩
        case measure => simp [intOf]; omega
    · have HE := Lib.hid (show l' = L by rw [← hgo.out, List.drop_eq_nil_of_le (by rw [HXL.out]; omega)]; rfl)
      clear hgo
      go_wp2_with fail
      go_end0
      exact ⟨rfl, by rw [← HE.out]; exact hF.out, K0.out.trans hfk.out⟩
set_option maxHeartbeats 2000000 in
theorem visit2_c (B gm g5 g2 gv g9 g8 : Nat) (l : List Nd) (u0 p q t u' t' : Int) (w : World) (h : FdS w B gm g5 g2 l) (hl : l.length ≤ 100000) (hv : Blk w gv 171 #[.func (.func 131) #[] #[.pointer (some ⟨g5, 0, none⟩), .pointer (some ⟨g2, 0, none⟩)]])
    (h9 : Blk w g9 2 #[i64 u0]) (h8 : Blk w g8 142 #[i64 p, i64 q, i64 t]) :
    Calls Try.prog 156 #[.int .i64 u', .int .i64 t', .pointer (some ⟨gv, 0, none⟩), .pointer (some ⟨g8, 0, none⟩), .pointer (some ⟨g9, 0, none⟩)] w fun e w' => e = .returned (.tuple #[]) ∧ FdS w' B gm g5 g2 (addN l (u', t, t', u0)) ∧ FK B g2 w w' := by
  have HC := Lib.hid (find_c B gm g5 g2 l (u', t, t', u0) w h hl)
  have c0 := hv.cell 0; have c1 := h9.cell 0; have c2 := h8.cell 2
  simp at c0 c1 c2
  clear h hv h9 h8
  go_enter Try.func156, Try.ntmps156
  go_wp2_with fail
  refine HC.out.mono ?_
  rintro e w' ⟨rfl, hf, hk⟩
  have HF := Lib.hid hf; have HK := Lib.hid hk
  clear hf hk HC
  go_wp2_with fail
  go_end0
  exact ⟨rfl, HF.out, HK.out⟩
set_option maxHeartbeats 4000000 in
set_option maxRecDepth 100000 in
theorem origins2_c (B gm g5 g2 gv g9 g8 : Nat) (l : List Nd) (u0 p q t to sy sl : Int) (A : Option Addr) (n c : Nat) (xs : List Int) (w : World) (h : FdS w B gm g5 g2 l) (hl : l.length ≤ 50000) (hv : Blk w gv 171 #[.func (.func 131) #[] #[.pointer (some ⟨g5, 0, none⟩), .pointer (some ⟨g2, 0, none⟩)]])
    (h9 : Blk w g9 2 #[i64 u0]) (h8 : Blk w g8 142 #[i64 p, i64 q, i64 t]) (hne : gv ≠ g2 ∧ g9 ≠ g2 ∧ g8 ≠ g2) (hx : RdU w B A n (xs.map i64)) (hn : n ≤ 1000) (hsy : 2 ≤ sy ∧ sy ≤ 6) :
    Calls Try.prog 154 #[.agg #[.int .i64 sl, .slice A n c], .int .i64 to, .int .i64 sy, .func (.func 156) #[] #[.pointer (some ⟨gv, 0, none⟩), .pointer (some ⟨g8, 0, none⟩), .pointer (some ⟨g9, 0, none⟩)]] w fun e w' => e = .returned (.tuple #[]) ∧ FdS w' B gm g5 g2 (((orig sy to 0 xs).map (fun p => (p.1, t, p.2, u0))).foldl addN l) ∧ FK B g2 w w' := by
  have HXL := Lib.hid (show xs.length = n by have := hx.1.1; simpa using this)
  obtain ⟨L, hL⟩ : ∃ L, ((orig sy to 0 xs).map (fun p => (p.1, t, p.2, u0))).foldl addN l = L := ⟨_, rfl⟩
  have HL := Lib.hid hL
  rw [hL]
  obtain ⟨w0, hw0⟩ : ∃ w0, w.alloc (.cells #[.int .i64 sl, .slice A n c] 61) = w0 := ⟨_, rfl⟩
  have B0 := Lib.hid (show Below w.heap.size w w0 by rw [← hw0]; exact below_size.alloc (Nat.le_refl _) _)
  have hBw : B ≤ w.heap.size := by have := h.hB; have := h.lt; omega
  have F0 := Lib.hid (h.keep B0.out); have K0 := Lib.hid (FK.of (g2 := g2) B0.out hBw)
  have X0 := Lib.hid (hx.below B0.out)
  have V0 := Lib.hid (hv.keep B0.out); have N0 := Lib.hid (h9.keep B0.out); have R0 := Lib.hid (h8.keep B0.out)
  clear h hv h9 h8 hx hL
  have x1 : w0.cell? ⟨w.heap.size, 1, none⟩ = some (.slice A n c) := by rw [← hw0]; exact new_cell _ _ _ 1
  go_enter Try.func154, Try.ntmps154
  go_wp2_with fail
  clear hw0 x1
  go_loopw [13] (fun iv wr => ∃ (k : Nat) (l' : List Nd), k ≤ n ∧ iv = .int .i64 k ∧ Hid (((orig sy to k (xs.drop k)).map (fun p => (p.1, t, p.2, u0))).foldl addN l' = L) ∧ l'.length ≤ l.length + k ∧ Hid (FdS wr B gm g5 g2 l') ∧ Hid (FK B g2 w0 wr)) (fun iv _ => n - (intOf iv).toNat)
  case atStart => exact ⟨0, l, by omega, rfl, HL.out, by omega, F0.out, FK.refl _ _ _⟩
  case round =>
    obtain ⟨k, l', hk, rfl, hgo, hll, hF, hfk⟩ := hrel
    by_cases hlt : k < n
    · have XR := X0.out.lowB hfk.out.below hfk.out.size
      obtain ⟨ad, v, rfl, had, hv, hc⟩ := RdI.at_ (show RdI wr A n xs from XR.1) hlt
      have HS := Lib.hid (show (((if v = to then [((k : Int) / sy, (k : Int) % sy)] else []) ++ orig sy to (k + 1) (xs.drop (k + 1))).map (fun p => (p.1, t, p.2, u0))).foldl addN l' = L by rw [← orig_round hv]; exact hgo.out)
      clear hgo hv XR
      by_cases hvt : v = to
      · have kv : (v == to) = true := by simpa using hvt
        have HS2 := Lib.hid (show ((orig sy to (k + 1) (xs.drop (k + 1))).map (fun p => (p.1, t, p.2, u0))).foldl addN (addN l' ((k : Int) / sy, t, (k : Int) % sy, u0)) = L by rw [← HS.out, if_pos hvt]; rfl)
        have VR := hfk.out.blk _ _ _ V0.out (by decide) hne.1; have NR := hfk.out.blk _ _ _ N0.out (by decide) hne.2.1; have RR := hfk.out.blk _ _ _ R0.out (by decide) hne.2.2
        have HC := Lib.hid (visit2_c B gm g5 g2 gv g9 g8 l' u0 p q t ((k : Int) / sy) ((k : Int) % sy) wr.drew (FdS.keep hF.out (below_drew below_size)) (by omega) VR.drew NR.drew RR.drew)
        have v1 : wrap64 ((k : Int) / sy) = (k : Int) / sy := by unfold wrap64; have := div_bd (k := k) (n := n) hsy hlt (by omega); omega
        have hal : (addN l' ((k : Int) / sy, t, (k : Int) % sy, u0)).length ≤ l'.length + 1 := by unfold addN; split <;> simp
        have HAL := Lib.hid hal
        clear hvt HS VR NR RR hal
        go_wp2_with fail
        refine Mix.wp_region_mix [0, 0, 0, 0, 0, 0, 0, 2] (fun w' => ∃ x : Ext wr, w' = x.w) (by kernel_rfl) (by kernel_rfl) (InExt.drew _) ?_
        repeat (first | (refine Mix.wpMix_read (by rfl) ?_; go_big_quiet_step (fail); refine wpQuiet_nil ?_) | (refine Mix.wpMix_pure (by rfl) ?_; go_big_quiet_step (fail); refine wpQuiet_nil ?_))
        refine Mix.wpMix_tail (by rfl) (fun K hK => ?_)
        go_wp2_with fail
        refine HC.out.mono ?_
        rintro e w' ⟨rfl, hf, hk'⟩
        have HF := Lib.hid hf; have HK := Lib.hid (hfk.out.trans ((FK.of (g2 := g2) (below_drew below_size) (by have := hF.out.hB; have := hF.out.lt; omega)).trans hk'))
        clear hf hk' HC v1
        go_wp2_with fail
        refine hK _ _ ?_
        clear hK K
        (refine Mix.wpMix_nil ?_; try simp only [Exit.then])
        go_wp2_with fail
        go_roundw
        case rel => exact ⟨k + 1, addN l' ((k : Int) / sy, t, (k : Int) % sy, u0), by omega, by go_num, HS2.out, by have := HAL.out; omega, HF.out, HK.out⟩
        case measure => simp [intOf]; omega
      · have kv : (v == to) = false := by simpa using hvt
        have HS2 := Lib.hid (show ((orig sy to (k + 1) (xs.drop (k + 1))).map (fun p => (p.1, t, p.2, u0))).foldl addN l' = L by rw [← HS.out, if_neg hvt]; rfl)
        clear hvt HS
        go_wp2_with fail
        go_roundw
        case rel => exact ⟨k + 1, l', by omega, by go_num, HS2.out, by omega, hF.out, hfk.out⟩
        case measure => simp [intOf]; omega
    · have HE := Lib.hid (show l' = L by rw [← hgo.out, List.drop_eq_nil_of_le (by rw [HXL.out]; omega)]; rfl)
      clear hgo
      go_wp2_with fail
      go_end0
      exact ⟨rfl, by rw [← HE.out]; exact hF.out, K0.out.trans hfk.out⟩
end Go.Proofs.Ytfahdgmlhinabaa
