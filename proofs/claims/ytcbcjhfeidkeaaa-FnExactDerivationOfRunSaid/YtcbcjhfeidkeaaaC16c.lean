/-
  Contracts of chapter 16: all rewriting rules of a machine, of the program.
-/
import Derived.Test.YtcbcjhfeidkeaaaC16a
namespace Go.Proofs.Ytcbcjhfeidkeaaa
open Go.RowKit

theorem sizeRw_c (A : Option Addr) (n c : Nat) (w : World) : Calls Try.prog 82 #[.slice A n c] w fun e w' => e = .returned (.int .i64 n) ∧ w = w' := by
  go_enter Try.func82, Try.ntmps82
  go_wp2_with fail
  go_ret
  exact ⟨rfl, rfl⟩
theorem rwOf_len (s : Nat) (e f a : Int) (r : Rule3) : (rwOf s e f a r).length ≤ 2 * s + 2 := by
  unfold rwOf
  split
  · split <;> simp
  · split <;> simp <;> omega
set_option maxHeartbeats 4000000 in
set_option maxRecDepth 100000 in
theorem machineRewrites_c (s : Nat) (t e : Int) (RA : Option Addr) (rn rc : Nat) (rs : List Rule3) (X : List Rw) (w : World) (h : Rd3 w RA rn rs) (hs : 2 ≤ s ∧ s ≤ 6) (he : e = s + t) (ht : 1 ≤ t ∧ t ≤ 1000) (hn : rn ≤ 10000) (hr : ∀ r ∈ rs, r ≠ noneR → 0 ≤ r.2.2 ∧ r.2.2 ≤ 100000) (hX : rwAll s e 0 rs = X) :
    Calls Try.prog 81 #[.agg #[.int .i64 s, .int .i64 e], .agg #[.int .i64 s, .int .i64 t, .slice RA rn rc]] w fun e' w' =>
      ∃ P pc ts, e' = .returned (.slice P ts.length pc) ∧ RwL w' w.heap.size w.heap.size P ts.length pc ts ∧ ts.map datR = X ∧ Below w.heap.size w w' := by
  have HL := Lib.hid h.len
  have H := Lib.hid h; have HX := Lib.hid hX; have HR := Lib.hid hr; have HEE := Lib.hid he
  have he2 : 0 ≤ e ∧ e ≤ 2000 := by omega
  clear h hX hr he
  obtain ⟨w2, hw2⟩ : ∃ w2, (w.alloc (.cells #[.int .i64 s, .int .i64 e] 99)).alloc (.cells #[.int .i64 s, .int .i64 t, .slice RA rn rc] 35) = w2 := ⟨_, rfl⟩
  have E2 := Lib.hid (show Below w.heap.size w w2 by rw [← hw2]; exact (below_size.alloc (Nat.le_refl _) _).alloc (by simp) _)
  have hz2 : w.heap.size + 2 ≤ w2.heap.size := by rw [← hw2]; simp
  have KA := Lib.hid (show Blk w2 w.heap.size 99 #[.int .i64 s, .int .i64 e] by rw [← hw2]; exact (Blk.new _ _ _).alloc _)
  have KM := Lib.hid (show Blk w2 (w.heap.size + 1) 35 #[.int .i64 s, .int .i64 t, .slice RA rn rc] by
    rw [← hw2]
    have := Blk.new (w.alloc (.cells #[.int .i64 s, .int .i64 e] 99)) 35 #[.int .i64 s, .int .i64 t, .slice RA rn rc]
    rwa [World.size_alloc] at this)
  obtain ⟨wi, hwi⟩ : ∃ wi, w2.alloc (.cells #[] 85) = wi := ⟨_, rfl⟩
  have EI := Lib.hid (show Below w2.heap.size w2 wi by rw [← hwi]; exact below_size.alloc (Nat.le_refl _) _)
  have hzi : w2.heap.size ≤ wi.heap.size := EI.out.size
  have O2 := Lib.hid (show Own wi w2.heap.size 85 2 (some ⟨w2.heap.size, 0, none⟩) 0 0 [] by rw [← hwi]; exact Own.litK (Nat.le_refl _))
  have y2 : wi.cell? ⟨w.heap.size + 1, 2, none⟩ = some (.slice RA rn rc) := (KM.out.keep EI.out).cell 2
  go_enter Try.func81, Try.ntmps81
  go_wp2_with fail
  go_loopw [5, 12] (fun lv kv wr => ∃ (k : Nat) (P : Option Addr) (pc : Nat) (ts : List RwT), k ≤ rn ∧ kv = .int .i64 k ∧ lv = .slice P ts.length pc ∧ Hid (RwL wr w2.heap.size w2.heap.size P ts.length pc ts) ∧ Hid (ts.map datR ++ rwAll s e k (rs.drop k) = X) ∧ ts.length ≤ 14 * k ∧ Hid (Below w2.heap.size w2 wr) ∧ w2.heap.size ≤ wr.heap.size) (fun _ kv _ => rn - (intOf kv).toNat)
  case atStart => exact ⟨0, some ⟨w2.heap.size, 0, none⟩, 0, [], by omega, rfl, rfl, RwL.nil O2.out, HX.out, by simp, EI.out, hzi⟩
  case round =>
    clear O2 y2
    obtain ⟨k, P, pc, ts, hk, rfl, rfl, hL, hT, hlen, hb, hz⟩ := hrel
    have BW := Lib.hid (E2.out.trans (hb.out.mono (by omega)))
    by_cases hlt : k < rn
    · obtain ⟨ad, r, rfl, hab, hx, hc0, hc1, hc2⟩ := (H.out.below BW.out).at_ hlt
      have HT := Lib.hid (show ts.map datR ++ ((if r = noneR then [] else rwOf s e ((s : Int) + (k / s : Nat)) ((k % s : Nat) : Int) r) ++ rwAll s e (k + 1) (rs.drop (k + 1))) = X by rw [← hT.out, drop_at hx, rwAll])
      have hrb := HR.out r (List.mem_of_getElem? hx)
      obtain ⟨b, mv, nx⟩ := r
      simp only at hc0 hc1 hc2 hrb
      obtain ⟨w5, hw5⟩ : ∃ w5, wr.alloc (.cells #[.int .i64 b, .int .i64 mv, .int .i64 nx] 80) = w5 := ⟨_, rfl⟩
      have E5 := Lib.hid (show Below w2.heap.size w2 w5 by rw [← hw5]; exact hb.out.alloc hz _)
      have K5 := Lib.hid (show Blk w5 wr.heap.size 80 #[.int .i64 b, .int .i64 mv, .int .i64 nx] by rw [← hw5]; exact Blk.new _ _ _)
      have L5 := Lib.hid (show RwL w5 _ _ _ _ _ _ by rw [← hw5]; exact hL.out.keep (below_size.alloc (Nat.le_refl _) _))
      have x0 : w5.cell? ⟨wr.heap.size, 0, none⟩ = some (.int .i64 b) := K5.out.cell 0
      have x1 : w5.cell? ⟨wr.heap.size, 1, none⟩ = some (.int .i64 mv) := K5.out.cell 1
      have x2 : w5.cell? ⟨wr.heap.size, 2, none⟩ = some (.int .i64 nx) := K5.out.cell 2
      have hz5 : w2.heap.size ≤ w5.heap.size := by rw [← hw5, World.size_alloc]; omega
      clear hx hT hL hb
      by_cases hno : (b, mv, nx) = noneR
      · have HG := Lib.hid (show ts.map datR ++ rwAll s e (k + 1) (rs.drop (k + 1)) = X by rw [← HT.out, if_pos hno]; simp)
        have HNO := Lib.hid hno
        clear hno HT hrb
        go_wp2_with fail
        refine (isRule_c b mv nx w5).mono ?_
        rw [decide_eq_true HNO.out]
        rintro e' w6 ⟨rfl, hb6⟩
        have E6 := Lib.hid (show Below w2.heap.size w2 w6 from E5.out.trans (hb6.mono hz5))
        have L6 := Lib.hid (L5.out.keep hb6)
        have hz6 := hb6.size
        clear hb6
        go_wp2_with fail
        go_roundw
        case rel => exact ⟨k + 1, P, pc, ts, by omega, by go_num, rfl, L6.out, HG.out, by omega, E6.out, by omega⟩
        case measure => simp [intOf]; omega
      · have HG := Lib.hid (show ts.map datR ++ (rwOf s e ((s : Int) + (k / s : Nat)) ((k % s : Nat) : Int) (b, mv, nx) ++ rwAll s e (k + 1) (rs.drop (k + 1))) = X by rw [← HT.out, if_neg hno])
        have HNO := Lib.hid (show decide ((b, mv, nx) = noneR) = false from decide_eq_false hno)
        have hrb' := hrb hno
        clear hno HT hrb
        go_wp2_with fail
        refine (isRule_c b mv nx w5).mono ?_
        rw [HNO.out]
        rintro e' w6 ⟨rfl, hb6⟩
        have E6 := Lib.hid (show Below w2.heap.size w2 w6 from E5.out.trans (hb6.mono hz5))
        have L6 := Lib.hid (L5.out.keep hb6)
        have K6 := Lib.hid (K5.out.keep hb6)
        have hz6 := hb6.size
        clear hb6 x0 x1 x2
        have a0 := Ext.cell (show w6.cell? ⟨wr.heap.size, 0, none⟩ = some (.int .i64 b) from K6.out.cell 0)
        have a1 := Ext.cell (show w6.cell? ⟨wr.heap.size, 1, none⟩ = some (.int .i64 mv) from K6.out.cell 1)
        have a2 := Ext.cell (show w6.cell? ⟨wr.heap.size, 2, none⟩ = some (.int .i64 nx) from K6.out.cell 2)
        have b0 := Ext.cell (show w6.cell? ⟨w.heap.size, 0, none⟩ = some (.int .i64 s) from (KA.out.keep E6.out).cell 0)
        have b1 := Ext.cell (show w6.cell? ⟨w.heap.size, 1, none⟩ = some (.int .i64 e) from (KA.out.keep E6.out).cell 1)
        have c0 := Ext.cell (show w6.cell? ⟨w.heap.size + 1, 0, none⟩ = some (.int .i64 s) from (KM.out.keep E6.out).cell 0)
        have c1 := Ext.cell (show w6.cell? ⟨w.heap.size + 1, 1, none⟩ = some (.int .i64 t) from (KM.out.keep E6.out).cell 1)
        have c2 := Ext.cell (show w6.cell? ⟨w.heap.size + 1, 2, none⟩ = some (.slice (some ad) rn rc) from (KM.out.keep E6.out).cell 2)
        have hkq : k / s ≤ k := Nat.div_le_self _ _
        have hkr : k % s < s := Nat.mod_lt _ (by omega)
        obtain ⟨q, hq⟩ : ∃ q, k / s = q := ⟨_, rfl⟩
        obtain ⟨z, hz'⟩ : ∃ z, k % s = z := ⟨_, rfl⟩
        have d1 : (k : Int).tdiv (s : Int) = (q : Int) := by rw [Int.tdiv_eq_ediv_of_nonneg (by omega), ← hq]; rfl
        have d2 : (k : Int).tmod (s : Int) = (z : Int) := by rw [Int.tmod_eq_emod_of_nonneg (by omega), ← hz']; rfl
        have d3 : IntKind.i64.wrap (q : Int) = (q : Int) := IntWalk.i64_in _ (by omega)
        have d4 : IntKind.i64.wrap (z : Int) = (z : Int) := IntWalk.i64_in _ (by omega)
        rw [hq, hz'] at HG
        have hsn : ((s : Int) == 0) = false := by simp; omega
        rw [hq] at hkq; rw [hz'] at hkr
        clear hq hz'
        go_wp2_with fail
        refine Mix.wp_region_mix [0, 3, 3, 0, 0, 3, 0, 0, 0, 3, 0, 3, 1, 2, 0] (fun w' => ∃ x : Ext w6, w' = x.w) (by kernel_rfl) (by kernel_rfl) (InExt.drew _) ?_
        repeat (first | (refine Mix.wpMix_read (by rfl) ?_; go_big_quiet_step (fail); refine wpQuiet_nil ?_) | (refine Mix.wpMix_pure (by rfl) ?_; go_big_quiet_step (fail); refine wpQuiet_nil ?_))
        refine Mix.wpMix_chg (by rfl) (fun K hK => ?_)
        go_wp2_with fail
        refine (rewritesOf_c s t e (some ad) rn rc q (z : Int) (b, mv, nx) w6.drew hs HEE.out ht (by omega) (by omega) hrb').mono ?_
        rintro e' w7 ⟨P7, pc7, ts7, rfl, hL7, hT7, hb7⟩
        have E7 := Lib.hid (below_of_drew hb7)
        have L7 := Lib.hid (show RwL w7 w6.heap.size w6.heap.size P7 ts7.length pc7 ts7 from hL7)
        have HT7 := Lib.hid (show ts7.map datR = rwOf s e ((s : Int) + (q : Int)) (z : Int) (b, mv, nx) from hT7)
        have hl7 : ts7.length ≤ 14 := by
          have h1 := rwOf_len s e ((s : Int) + (q : Int)) (z : Int) (b, mv, nx)
          rw [← hT7, List.length_map] at h1; omega
        have hz7 := E7.out.size
        clear hL7 hT7 hb7
        go_wp2_with fail
        refine hK _ _ ⟨⟨_, E7.out⟩, rfl⟩ ?_
        clear hK K
        refine Mix.wpMix_tail (by rfl) (fun K hK => ?_)
        refine wp_appRws (by rfl) _ _ (by rfl) w2.heap.size w2.heap.size P ts.length pc ts (by rfl) (w0 := w6) L6.out (by omega) (by omega) E7.out P7 ts7.length pc7 ts7 (by rfl) L7.out (by omega) ?_
        intro A8 c8 w8 hL8 hb8 hz8
        have L8 := Lib.hid (show RwL w8 w2.heap.size w2.heap.size A8 (ts ++ ts7).length c8 (ts ++ ts7) by rw [List.length_append]; exact hL8)
        have HT8 := Lib.hid (show (ts ++ ts7).map datR ++ rwAll s e (k + 1) (rs.drop (k + 1)) = X by rw [List.map_append, HT7.out, List.append_assoc]; exact HG.out)
        have E8 := Lib.hid (show Below w2.heap.size w2 w8 from (E6.out.trans (E7.out.mono (by omega))).trans hb8)
        have hll : (ts ++ ts7).length = ts.length + ts7.length := List.length_append
        clear hL8 hb8
        go_wp2_with fail
        refine hK _ _ ?_
        clear hK K
        repeat (first | (refine Mix.wpMix_read (by rfl) ?_; go_big_quiet_step (fail); refine wpQuiet_nil ?_) | (refine Mix.wpMix_pure (by rfl) ?_; go_big_quiet_step (fail); refine wpQuiet_nil ?_))
        (refine Mix.wpMix_nil ?_; try simp only [Exit.then])
        go_wp2_with fail
        go_roundw
        case rel => exact ⟨k + 1, A8, c8, ts ++ ts7, by omega, by go_num, by rw [hll], L8.out, HT8.out, by omega, E8.out, by omega⟩
        case measure => simp [intOf]; omega
    · obtain rfl : k = rn := by omega
      have HG := Lib.hid (show ts.map datR = X by rw [← hT.out, List.drop_eq_nil_of_le (by rw [HL.out]; exact Nat.le_refl _)]; simp [rwAll])
      go_wp2_with fail
      go_ret
      exact ⟨P, pc, ts, rfl, hL.out.widen (by omega) (by omega), HG.out, BW.out⟩
end Go.Proofs.Ytcbcjhfeidkeaaa
