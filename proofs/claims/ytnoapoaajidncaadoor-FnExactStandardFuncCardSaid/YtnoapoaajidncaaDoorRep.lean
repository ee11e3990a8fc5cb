/-
  slices.Repeat of a list of one number: a row of so many.
-/
import Derived.Test.YtnoapoaajidncaaDoorC01
import Derived.Test.YtnoapoaajidncaaDoorApp
import Derived.Laws.CopyOwn
namespace Go.Proofs.YtnoapoaajidncaaDoor
open Go.RowKit

/-- q cells done of m -/
def repCells (m q : Nat) (v : Int) : List Value := List.replicate q (i64 v) ++ List.replicate (m - q) (i64 0)
theorem repCells_len {m q : Nat} {v : Int} (h : q ≤ m) : (repCells m q v).length = m := by simp [repCells]; omega
theorem repCells_splice {m q d : Nat} {v : Int} (_h : q + d ≤ m) : splice (repCells m q v) q (List.replicate d (i64 v)) = repCells m (q + d) v := by
  unfold splice repCells
  rw [List.take_left' (by simp), List.length_replicate, List.drop_append, List.length_replicate, show q + d - q = d by omega, List.drop_eq_nil_of_le (by simp), List.nil_append, List.drop_replicate, ← List.append_assoc, List.replicate_append_replicate, show m - q - d = m - (q + d) by omega]
theorem repCells_full {m : Nat} {v : Int} : repCells m m v = (List.replicate m v).map i64 := by simp [repCells]
theorem copy_run {P : Program} (dT sT ty elem : TypeId) (hu : P.underlying dT = some (.slice elem)) (hsz : (P.info? elem).map (·.size) = some 1) (g off dLen dCap : Nat) (ad : Addr) (sLen sCap : Nat) (cur : List Value) (t : TypeId) (w : World) (hg : w.heap[g]? = some (.cells cur.toArray t (0, 0)))
    (cs : List Value) (hn : cs.length = Nat.min sLen dLen) (hsrc : ∀ j v, cs[j]? = some v → w.cell? (ad.add j) = some v) (hfit : off + cs.length ≤ cur.length) (h1 : ∀ v ∈ cs, v.oneCell' = true) (B : Nat) (w0 : World) (hb : Below B w0 w) (hBg : B ≤ g) :
    ∃ w', (Builtin.copy_ #[dT, sT] ty #[.slice (some ⟨g, off, none⟩) dLen dCap, .slice (some ad) sLen sCap]).run P w = .ok (.int .i64 cs.length) w' ∧ w'.heap[g]? = some (.cells (splice cur off cs).toArray t (0, 0)) ∧ Below B w0 w' :=
  ⟨_, run_copy_row (P := P) w dT sT ty elem g off dLen dCap ad sLen sCap cur.toArray t cs hu hsz hg hn hsrc (by simpa using hfit) h1, by simpa [splice] using setRow_heap w g _ _ t _ hg, below_setRow hb hBg _⟩
set_option maxHeartbeats 4000000 in
theorem mul1_c (m : Nat) (hm : m ≤ 11) (w : World) : Calls Tryd.prog 64 #[.int .u64 1, .int .u64 m] w fun e w' => e = .returned (.tuple #[.int .u64 0, .int .u64 m]) ∧ w = w' := by
  have h : m = 0 ∨ m = 1 ∨ m = 2 ∨ m = 3 ∨ m = 4 ∨ m = 5 ∨ m = 6 ∨ m = 7 ∨ m = 8 ∨ m = 9 ∨ m = 10 ∨ m = 11 := by omega
  rcases h with rfl | rfl | rfl | rfl | rfl | rfl | rfl | rfl | rfl | rfl | rfl | rfl
  all_goals
    go_enter Tryd.func64, Tryd.ntmps64
    go_wp2
    go_ret2
    exact ⟨rfl, rfl⟩
set_option maxHeartbeats 4000000 in
set_option maxRecDepth 100000 in
theorem repeatI_c (ad : Addr) (c0 : Nat) (v : Int) (m : Nat) (w : World) (hv : w.cell? ad = some (i64 v)) (_hab : ad.block < w.heap.size) (hm : 1 ≤ m ∧ m ≤ 11) :
    Calls Tryd.prog 59 #[.slice (some ad) 1 c0, .int .i64 m] w fun e w' => ∃ g, e = .returned (.slice (some ⟨g, 0, none⟩) m m) ∧ Wr w' w.heap.size w'.heap.size (some ⟨g, 0, none⟩) m ((List.replicate m v).map i64) ∧ Below w.heap.size w w' := by
  have k1 : decide ((m : Int) < 0) = false := decide_eq_false (by omega)
  have k2 : IntKind.u64.wrap (m : Int) = (m : Int) := by rw [IntKind.wrap]; simp [IntKind.bits]; omega
  have hmk : ∀ w, (Instr.makeSlice 72 (.int .i64 m) (.int .i64 m)).run Tryd.prog w = .ok (.slice (some ⟨w.heap.size, 0, none⟩) m m) (w.alloc (.cells (Array.replicate m (.int .i64 0)) 2)) := fun w => run_mk (P := Tryd.prog) 72 2 (.int .i64 0) 8 Tryd.underlying72 info_i64 rfl .i64 .i64 m m (by omega) (by omega) (by omega) w
  go_enter Tryd.func59, Tryd.ntmps59
  clear k1
  go_wp2_with fail
  refine (mul1_c m (by omega) _).mono ?_
  rintro e w' ⟨rfl, rfl⟩
  have k3 : IntKind.i64.wrap (m : Int) = (m : Int) := IntWalk.i64_in _ (by omega)
  have k4 : decide ((9223372036854775807 : Int) < (m : Int)) = false := decide_eq_false (by omega)
  have HB0 := Lib.hid (show (w.alloc (.cells (Array.replicate m (.int .i64 0)) 2)).heap[w.heap.size]? = some (.cells (repCells m 0 v).toArray 2 (0, 0)) by
    rw [heap_alloc_new]; simp [repCells])
  have H1 := Lib.hid (show (repCells m 0 v).length = m from repCells_len (by omega))
  obtain ⟨w2, hcp, HG2, hB2⟩ := copy_run (P := Tryd.prog) 72 72 3 2 Tryd.underlying72 (by kernel_rfl) w.heap.size 0 m m ad 1 c0 (repCells m 0 v) 2 (w.alloc (.cells (Array.replicate m (.int .i64 0)) 2)) HB0.out [i64 v] (show 1 = min 1 m by omega)
    (fun j u hj => by cases j with | zero => simp at hj; subst hj; exact keepa _ hv | succ j => simp at hj) (by rw [H1.out]; simp; omega) (by intro u hu; simp at hu; subst hu; rfl) w.heap.size w (below_size.alloc (Nat.le_refl _) _) (Nat.le_refl _)
  have G2 := Lib.hid (show w2.heap[w.heap.size]? = some (.cells (repCells m 1 v).toArray 2 (0, 0)) by rw [HG2]; congr 2; exact congrArg List.toArray (repCells_splice (d := 1) (by omega)))
  have B2 := Lib.hid hB2
  clear hv HG2 hB2
  clear k2 k3 k4 HB0 H1
  go_wp2_with fail
  clear hmk hcp
  go_loopw [8] (fun qv wr => ∃ q : Nat, 1 ≤ q ∧ q ≤ m ∧ qv = .int .i64 q ∧ Hid (wr.heap[w.heap.size]? = some (.cells (repCells m q v).toArray 2 (0, 0))) ∧ Below w.heap.size w wr) (fun qv _ => m - (intOf qv).toNat)
  case atStart => exact ⟨1, by omega, by omega, rfl, G2.out, B2.out⟩
  case round =>
    obtain ⟨q, hq1, hq, rfl, hG, hb⟩ := hrel
    have HB := Lib.hid hb
    have hwz := hb.size
    have hlt0 : w.heap.size < wr.heap.size := Blk.lt (show Blk wr w.heap.size 2 _ from hG.out)
    clear hb
    by_cases hlt : q < m
    · obtain ⟨d, hd⟩ : ∃ d, Nat.min q (m - q) = d := ⟨_, rfl⟩
      have hdq : 1 ≤ d ∧ q + d ≤ m ∧ d ≤ q := by
        have : Nat.min q (m - q) = min q (m - q) := rfl
        omega
      have H1 := Lib.hid (show (repCells m q v).length = m from repCells_len (by omega))
      have hBl : Blk wr w.heap.size 2 (repCells m q v).toArray := hG.out
      obtain ⟨w3, hcp, HG3, hB3⟩ := copy_run (P := Tryd.prog) 72 72 3 2 Tryd.underlying72 (by kernel_rfl) w.heap.size q (m - q) (m - q) ⟨w.heap.size, 0, none⟩ q m (repCells m q v) 2 wr.drew hG.out (List.replicate d (i64 v)) (by simp; rw [← hd])
        (fun j u hj => by
          rw [List.getElem?_replicate] at hj
          split at hj
          · injection hj with hj; subst hj
            rw [head_add]
            show wr.cell? _ = _
            rw [hBl.cell j]
            simp only [repCells, List.getElem?_toArray]
            rw [List.getElem?_append_left (by simp; omega), List.getElem?_replicate, if_pos (by omega)]
          · cases hj) (by rw [H1.out]; simp; omega) (by intro u hu; obtain ⟨_, rfl⟩ := List.mem_replicate.1 hu; rfl) w.heap.size w (below_drew HB.out) (Nat.le_refl _)
      have G3 := Lib.hid (show w3.heap[w.heap.size]? = some (.cells (repCells m (q + d) v).toArray 2 (0, 0)) by rw [HG3]; congr 2; exact congrArg List.toArray (repCells_splice (by omega)))
      have B3 := Lib.hid hB3
      rw [List.length_replicate] at hcp
      clear HG3 hB3 hBl hd
      go_wp2_with fail
      refine Mix.wp_region_mix [0, 0, 0, 0, 0, 0, 0, 2, 0, 0] (fun w' => ∃ x : Ext wr, w' = x.w) (by kernel_rfl) (by kernel_rfl) (InExt.drew _) ?_
      repeat (first | (refine Mix.wpMix_read (by rfl) ?_; go_big_quiet_step (fail); refine wpQuiet_nil ?_) | (refine Mix.wpMix_pure (by rfl) ?_; go_big_quiet_step (fail); refine wpQuiet_nil ?_))
      refine Mix.wpMix_tail (by rfl) (fun K hK => ?_)
      go_wp2_with fail
      refine hK _ _ ?_
      clear hK K
      clear hcp
      repeat (first | (refine Mix.wpMix_read (by rfl) ?_; go_big_quiet_step (fail); refine wpQuiet_nil ?_) | (refine Mix.wpMix_pure (by rfl) ?_; go_big_quiet_step (fail); refine wpQuiet_nil ?_))
      (refine Mix.wpMix_nil ?_; try simp only [Exit.then])
      go_wp2_with fail
      go_roundw
      case rel => exact ⟨q + d, by omega, hdq.2.1, by go_num, G3.out, B3.out⟩
      case measure => simp [intOf]; omega
    · have HF := Lib.hid (show q = m by omega)
      go_wp2_with fail
      go_ret
      refine ⟨w.heap.size, rfl, ?_, HB.out⟩
      have hBl : Blk wr w.heap.size 2 (repCells m q v).toArray := hG.out
      rw [HF.out] at hBl
      exact hBl.wr (Nat.le_refl _) hlt0 (by rw [← repCells_full]; exact List.take_of_length_le (by rw [repCells_len (Nat.le_refl _)]; exact Nat.le_refl _)) (by rw [List.size_toArray, repCells_len (Nat.le_refl _)]; exact Nat.le_refl _)
end Go.Proofs.YtnoapoaajidncaaDoor
