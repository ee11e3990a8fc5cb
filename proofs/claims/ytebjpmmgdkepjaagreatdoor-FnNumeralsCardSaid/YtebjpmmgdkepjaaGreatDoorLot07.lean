/-
  Parts of the proof, one behind the other: contracts of the functions that the law reaches, and plain laws.
-/
import Derived.Laws.CopyOwn
import Derived.Test.YtebjpmmgdkepjaaGreatDoorLot01
import Derived.Test.YtebjpmmgdkepjaaGreatDoorLot02
import Derived.Test.YtebjpmmgdkepjaaGreatDoorLot03
import Derived.Test.YtebjpmmgdkepjaaGreatDoorLot04
import Derived.Test.YtebjpmmgdkepjaaGreatDoorLot05
import Derived.Test.YtebjpmmgdkepjaaGreatDoorLot06
/-
  slices.Repeat of a list of one number: a row of so many.
-/
namespace Go.Proofs.YtebjpmmgdkepjaaGreatDoor
open Go.RowKit

/-- q cells done of m -/
def repCells (m q : Nat) (v : Int) : List Value := List.replicate q (i64 v) ++ List.replicate (m - q) (i64 0)
theorem repCells_len {m q : Nat} {v : Int} (h : q ≤ m) : (repCells m q v).length = m := by simp [repCells]; omega
theorem repCells_splice {m q d : Nat} {v : Int} (_h : q + d ≤ m) : splice (repCells m q v) q (List.replicate d (i64 v)) = repCells m (q + d) v := by
  unfold splice repCells
  rw [List.take_left' (by simp), List.length_replicate, List.drop_append, List.length_replicate, show q + d - q = d by omega, List.drop_eq_nil_of_le (by simp), List.nil_append, List.drop_replicate, ← List.append_assoc, List.replicate_append_replicate, show m - q - d = m - (q + d) by omega]
theorem repCells_full {m : Nat} {v : Int} : repCells m m v = (List.replicate m v).map i64 := by simp [repCells]
theorem copy_run {P : Program} (dT sT ty elem : TypeId) (hu : P.underlying dT = some (.slice elem)) (hsz : (P.info? elem).map (·.size) = some 1) (g off dLen dCap : Nat) (ad : Addr) (sLen sCap : Nat) (cur : List Value) (t : TypeId) (w : World) (hg : w.heap[g]? = some (.cells cur.toArray t (0, 0)))
    (cs : List Value) (hn : cs.length = Nat.min sLen dLen) (hsrc : ∀ j v, cs[j]? = some v → w.cell? (ad.add j) = some v) (hfit : off + cs.length ≤ cur.length) (h1 : ∀ v ∈ cs, v.oneCell' = true) (B : Nat) (w0 : World) (hb : Below B w0 w) (hBg : B ≤ g) :
    ∃ w', (Builtin.copy_ #[dT, sT] ty #[.slice (some ⟨g, off, none⟩) dLen dCap, .slice (some ad) sLen sCap]).run P w = .ok (.int .i64 cs.length) w' ∧ w'.heap[g]? = some (.cells (splice cur off cs).toArray t (0, 0)) ∧ Below B w0 w' :=
  ⟨_, run_copy_row (P := P) w dT sT ty elem g off dLen dCap ad sLen sCap cur.toArray t cs hu hsz hg hn hsrc (by simpa using hfit) h1, by simpa [splice] using setRow_heap w g _ _ t _ hg, below_setRow hb hBg _⟩
set_option maxHeartbeats 4000000 in
theorem mul1_c (m : Nat) (hm : m ≤ 11) (w : World) : Calls Tryz.prog 135 #[.int .u64 1, .int .u64 m] w fun e w' => e = .returned (.tuple #[.int .u64 0, .int .u64 m]) ∧ w = w' := by
  have h : m = 0 ∨ m = 1 ∨ m = 2 ∨ m = 3 ∨ m = 4 ∨ m = 5 ∨ m = 6 ∨ m = 7 ∨ m = 8 ∨ m = 9 ∨ m = 10 ∨ m = 11 := by omega
  rcases h with rfl | rfl | rfl | rfl | rfl | rfl | rfl | rfl | rfl | rfl | rfl | rfl
  all_goals
    go_enter Tryz.func135, Tryz.ntmps135
    go_wp2
    go_ret2
    exact ⟨rfl, rfl⟩
set_option maxHeartbeats 4000000 in
set_option maxRecDepth 100000 in
theorem repeatI_c (ad : Addr) (c0 : Nat) (v : Int) (m : Nat) (w : World) (hv : w.cell? ad = some (i64 v)) (_hab : ad.block < w.heap.size) (hm : 1 ≤ m ∧ m ≤ 11) :
    Calls Tryz.prog 197 #[.slice (some ad) 1 c0, .int .i64 m] w fun e w' => ∃ g, e = .returned (.slice (some ⟨g, 0, none⟩) m m) ∧ Wr w' w.heap.size w'.heap.size (some ⟨g, 0, none⟩) m ((List.replicate m v).map i64) ∧ Below w.heap.size w w' := by
  have k1 : decide ((m : Int) < 0) = false := decide_eq_false (by omega)
  have k2 : IntKind.u64.wrap (m : Int) = (m : Int) := by rw [IntKind.wrap]; simp [IntKind.bits]; omega
  have hmk : ∀ w, (Instr.makeSlice 29 (.int .i64 m) (.int .i64 m)).run Tryz.prog w = .ok (.slice (some ⟨w.heap.size, 0, none⟩) m m) (w.alloc (.cells (Array.replicate m (.int .i64 0)) 2)) := fun w => run_mk (P := Tryz.prog) 29 2 (.int .i64 0) 8 Tryz.underlying29 info_i64 rfl .i64 .i64 m m (by omega) (by omega) (by omega) w
  go_enter Tryz.func197, Tryz.ntmps197
  clear k1
  go_wp2_with fail
  refine (mul1_c m (by omega) _).mono ?_
  rintro e w' ⟨rfl, rfl⟩
  have k3 : IntKind.i64.wrap (m : Int) = (m : Int) := IntWalk.i64_in _ (by omega)
  have k4 : decide ((9223372036854775807 : Int) < (m : Int)) = false := decide_eq_false (by omega)
  have HB0 := Lib.hid (show (w.alloc (.cells (Array.replicate m (.int .i64 0)) 2)).heap[w.heap.size]? = some (.cells (repCells m 0 v).toArray 2 (0, 0)) by
    rw [heap_alloc_new]; simp [repCells])
  have H1 := Lib.hid (show (repCells m 0 v).length = m from repCells_len (by omega))
  obtain ⟨w2, hcp, HG2, hB2⟩ := copy_run (P := Tryz.prog) 29 29 3 2 Tryz.underlying29 (by kernel_rfl) w.heap.size 0 m m ad 1 c0 (repCells m 0 v) 2 (w.alloc (.cells (Array.replicate m (.int .i64 0)) 2)) HB0.out [i64 v] (show 1 = min 1 m by omega)
    (fun j u hj => by cases j with | zero => simp at hj; subst hj; exact keepa _ hv | succ j => simp at hj) (by rw [H1.out]; simp; omega) (by intro u hu; simp at hu; subst hu; rfl) w.heap.size w (below_size.alloc (Nat.le_refl _) _) (Nat.le_refl _)
  have G2 := Lib.hid (show w2.heap[w.heap.size]? = some (.cells (repCells m 1 v).toArray 2 (0, 0)) by rw [HG2]; congr 2; exact congrArg List.toArray (repCells_splice (d := 1) (by omega)))
  have B2 := Lib.hid hB2
  clear hv HG2 hB2
  clear k2 k3 k4 HB0 H1
  go_wp2_with fail
  clear hmk hcp
  go_loopw [8] (fun qv wr => ∃ q : Nat, 1 ≤ q ∧ q ≤ m ∧ qv = .int .i64 q ∧ Hid (wr.heap[w.heap.size]? = some (.cells (repCells m q v).toArray 2 (0, 0))) ∧ Below w.heap.size w wr) (fun qv _ => m - (intOf qv).toNat)
  case atStart => exact ⟨1, by omega, by omega, rfl, G2.out, B2.out⟩
  case round =>
    obtain ⟨q, hq1, hq, rfl, hG, hb⟩ := hrel
    have HB := Lib.hid hb
    have hwz := hb.size
    have hlt0 : w.heap.size < wr.heap.size := Blk.lt (show Blk wr w.heap.size 2 _ from hG.out)
    clear hb
    by_cases hlt : q < m
    · obtain ⟨d, hd⟩ : ∃ d, Nat.min q (m - q) = d := ⟨_, rfl⟩
      have hdq : 1 ≤ d ∧ q + d ≤ m ∧ d ≤ q := by
        have : Nat.min q (m - q) = min q (m - q) := rfl
        omega
      have H1 := Lib.hid (show (repCells m q v).length = m from repCells_len (by omega))
      have hBl : Blk wr w.heap.size 2 (repCells m q v).toArray := hG.out
      obtain ⟨w3, hcp, HG3, hB3⟩ := copy_run (P := Tryz.prog) 29 29 3 2 Tryz.underlying29 (by kernel_rfl) w.heap.size q (m - q) (m - q) ⟨w.heap.size, 0, none⟩ q m (repCells m q v) 2 wr.drew hG.out (List.replicate d (i64 v)) (by simp; rw [← hd])
        (fun j u hj => by
          rw [List.getElem?_replicate] at hj
          split at hj
          · injection hj with hj; subst hj
            rw [head_add]
            show wr.cell? _ = _
            rw [hBl.cell j]
            simp only [repCells, List.getElem?_toArray]
            rw [List.getElem?_append_left (by simp; omega), List.getElem?_replicate, if_pos (by omega)]
          · cases hj) (by rw [H1.out]; simp; omega) (by intro u hu; obtain ⟨_, rfl⟩ := List.mem_replicate.1 hu; rfl) w.heap.size w (below_drew HB.out) (Nat.le_refl _)
      have G3 := Lib.hid (show w3.heap[w.heap.size]? = some (.cells (repCells m (q + d) v).toArray 2 (0, 0)) by rw [HG3]; congr 2; exact congrArg List.toArray (repCells_splice (by omega)))
      have B3 := Lib.hid hB3
      rw [List.length_replicate] at hcp
      clear HG3 hB3 hBl hd
      go_wp2_with fail
      refine Mix.wp_region_mix [0, 0, 0, 0, 0, 0, 0, 2, 0, 0] (fun w' => ∃ x : Ext wr, w' = x.w) (by kernel_rfl) (by kernel_rfl) (InExt.drew _) ?_
      repeat (first | (refine Mix.wpMix_read (by rfl) ?_; go_big_quiet_step (fail); refine wpQuiet_nil ?_) | (refine Mix.wpMix_pure (by rfl) ?_; go_big_quiet_step (fail); refine wpQuiet_nil ?_))
      refine Mix.wpMix_tail (by rfl) (fun K hK => ?_)
      go_wp2_with fail
      refine hK _ _ ?_
      clear hK K
      clear hcp
      repeat (first | (refine Mix.wpMix_read (by rfl) ?_; go_big_quiet_step (fail); refine wpQuiet_nil ?_) | (refine Mix.wpMix_pure (by rfl) ?_; go_big_quiet_step (fail); refine wpQuiet_nil ?_))
      (refine Mix.wpMix_nil ?_; try simp only [Exit.then])
      go_wp2_with fail
      go_roundw
      case rel => exact ⟨q + d, by omega, hdq.2.1, by go_num, G3.out, B3.out⟩
      case measure => simp [intOf]; omega
    · have HF := Lib.hid (show q = m by omega)
      go_wp2_with fail
      go_ret
      refine ⟨w.heap.size, rfl, ?_, HB.out⟩
      have hBl : Blk wr w.heap.size 2 (repCells m q v).toArray := hG.out
      rw [HF.out] at hBl
      exact hBl.wr (Nat.le_refl _) hlt0 (by rw [← repCells_full]; exact List.take_of_length_le (by rw [repCells_len (Nat.le_refl _)]; exact Nat.le_refl _)) (by rw [List.size_toArray, repCells_len (Nat.le_refl _)]; exact Nat.le_refl _)
end Go.Proofs.YtebjpmmgdkepjaaGreatDoor
/-
  slices.Repeat of a list of one element of two numbers: so many of them.
-/
namespace Go.Proofs.YtebjpmmgdkepjaaGreatDoor
open Go.RowKit

/-- copy of elements of k cells -/
theorem run_copy_rowK {P : Program} (w : World) (dT sT ty elem : TypeId) (g o dLen dCap : Nat) (a : Addr) (sLen sCap k : Nat) (cur : Array Value) (t : TypeId) (cs : List Value)
    (hu : P.underlying dT = some (.slice elem)) (hs : (P.info? elem).map (·.size) = some k)
    (hg : w.heap[g]? = some (.cells cur t (0, 0))) (hn : cs.length = Nat.min sLen dLen * k)
    (hsrc : ∀ j v, cs[j]? = some v → w.cell? (a.add j) = some v) (hfit : o + cs.length ≤ cur.size) (h1 : ∀ v ∈ cs, v.oneCell' = true) :
    (Builtin.copy_ #[dT, sT] ty #[.slice (some ⟨g, o, none⟩) dLen dCap, .slice (some a) sLen sCap]).run P w =
      .ok (goInt (Nat.min sLen dLen)) (w.setRow g (cur.toList.take o ++ cs ++ cur.toList.drop (o + cs.length)).toArray) := by
  have hl := run_loadCells_list (P := P) w a cs hsrc
  have hst := run_storeCells_at P g o t cs 0 cur w hg (by simpa using hfit) h1
  cases hq : P.info? elem with
  | none => simp [hq] at hs
  | some i =>
    have hi : i.size = k := by simpa [hq] using hs
    simp [Builtin.copy_, run_underlying hu, Builtin.lenOf, Builtin.firstCells, sizeOf, typeInfo, hq, hi, ← hn, hl, hst]
theorem copy_runK {P : Program} (dT sT ty elem : TypeId) (k : Nat) (hu : P.underlying dT = some (.slice elem)) (hsz : (P.info? elem).map (·.size) = some k) (g off dLen dCap : Nat) (ad : Addr) (sLen sCap : Nat) (cur : List Value) (t : TypeId) (w : World) (hg : w.heap[g]? = some (.cells cur.toArray t (0, 0)))
    (cs : List Value) (d : Nat) (hd : Nat.min sLen dLen = d) (hn : cs.length = d * k) (hsrc : ∀ j v, cs[j]? = some v → w.cell? (ad.add j) = some v) (hfit : off + cs.length ≤ cur.length) (h1 : ∀ v ∈ cs, v.oneCell' = true) (B : Nat) (w0 : World) (hb : Below B w0 w) (hBg : B ≤ g) :
    ∃ w', (Builtin.copy_ #[dT, sT] ty #[.slice (some ⟨g, off, none⟩) dLen dCap, .slice (some ad) sLen sCap]).run P w = .ok (.int .i64 d) w' ∧ w'.heap[g]? = some (.cells (splice cur off cs).toArray t (0, 0)) ∧ Below B w0 w' := by
  subst hd
  exact ⟨_, run_copy_rowK (P := P) w dT sT ty elem g off dLen dCap ad sLen sCap k cur.toArray t cs hu hsz hg hn hsrc (by simpa using hfit) h1, by simpa [splice] using setRow_heap w g _ _ t _ hg, below_setRow hb hBg _⟩
/-- q elements done of m -/
def repC2 (m q : Nat) (x : Int × Int) : List Value := (List.replicate q x ++ List.replicate (m - q) (0, 0)).flatMap enc2
theorem repC2_len {m q : Nat} {x : Int × Int} (h : q ≤ m) : (repC2 m q x).length = m * 2 := by rw [repC2, flatX_len enc2 2 enc2_len]; simp; omega
theorem repC2_splice {m q d : Nat} {x : Int × Int} (_h : q + d ≤ m) : splice (repC2 m q x) (q * 2) ((List.replicate d x).flatMap enc2) = repC2 m (q + d) x := by
  unfold splice repC2
  rw [flat_take, flatX_len enc2 2 enc2_len, List.length_replicate, ← Nat.add_mul, flat_drop, ← List.flatMap_append, ← List.flatMap_append]
  rw [List.take_left' (by simp), List.drop_append, List.length_replicate, show q + d - q = d by omega, List.drop_eq_nil_of_le (by simp), List.nil_append, List.drop_replicate, ← List.append_assoc, List.replicate_append_replicate, show m - q - d = m - (q + d) by omega]
theorem repC2_full {m : Nat} {x : Int × Int} : repC2 m m x = (List.replicate m x).flatMap enc2 := by simp [repC2]
theorem repC2_zero (m : Nat) (x : Int × Int) : repC2 m 0 x = List.replicate (m * 2) (i64 0) := by
  simp only [repC2, List.replicate_zero, List.nil_append, Nat.sub_zero]
  induction m with
  | zero => rfl
  | succ m ih => rw [List.replicate_succ, List.flatMap_cons, ih, Nat.succ_mul]; rfl
theorem repC2_at {m q j : Nat} {x : Int × Int} {u : Value} (h : ((List.replicate q x).flatMap enc2)[j]? = some u) : (repC2 m q x)[j]? = some u := by
  rw [repC2, List.flatMap_append, List.getElem?_append_left (List.getElem?_eq_some_iff.1 h).1]; exact h
theorem repC2_one {d : Nat} {x : Int × Int} : ∀ u ∈ (List.replicate d x).flatMap enc2, u.oneCell' = true := by
  intro u hu
  obtain ⟨y, _, hy⟩ := List.mem_flatMap.1 hu
  rcases List.mem_cons.1 hy with rfl | hy
  · rfl
  · rw [List.mem_singleton] at hy; subst hy; rfl
theorem repl_pre {d q j : Nat} {x : Int × Int} {u : Value} (hd : d ≤ q) (h : ((List.replicate d x).flatMap enc2)[j]? = some u) : ((List.replicate q x).flatMap enc2)[j]? = some u := by
  obtain ⟨r, rfl⟩ := Nat.exists_eq_add_of_le hd
  rw [← List.replicate_append_replicate, List.flatMap_append, List.getElem?_append_left (List.getElem?_eq_some_iff.1 h).1]; exact h
theorem own_row {w : World} {B g m k : Nat} {e : TypeId} {cs : Array Value} {vs : List Value} (hb : Blk w g e cs) (hB : B ≤ g) (hs : cs.size = m * k) (hv : cs.toList.take (m * k) = vs) (hm : m ≤ 1000000) : Own w B e k (some ⟨g, 0, none⟩) m m vs := by
  have hl : vs.length = m * k := by rw [← hv, List.length_take, Array.length_toList, hs, Nat.min_self]
  exact ⟨hl, .inr ⟨g, m, cs, rfl, hB, hb, Nat.le_refl _, by simp [maxLen]; omega, hs, hv⟩⟩
theorem info_repComb : (Tryz.prog.info? 100).map (fun i => (i.zero, i.size, i.bytes)) = some (some (.agg #[.int .i64 0, .int .i64 0]), 2, 16) := by kernel_rfl
set_option maxHeartbeats 4000000 in
set_option maxRecDepth 100000 in
theorem repeatComb_c (ad : Addr) (c0 : Nat) (x : Int × Int) (m : Nat) (w : World) (hv : w.cell? ad = some (i64 x.1)) (hv' : w.cell? ⟨ad.block, ad.off + 1, none⟩ = some (i64 x.2)) (hm : 1 ≤ m ∧ m ≤ 11) :
    Calls Tryz.prog 147 #[.slice (some ad) 1 c0, .int .i64 m] w fun e w' => ∃ g, e = .returned (.slice (some ⟨g, 0, none⟩) m m) ∧ Own w' w.heap.size 100 2 (some ⟨g, 0, none⟩) m m ((List.replicate m x).flatMap enc2) ∧ Below w.heap.size w w' := by
  have k1 : decide ((m : Int) < 0) = false := decide_eq_false (by omega)
  have k2 : IntKind.u64.wrap (m : Int) = (m : Int) := by rw [IntKind.wrap]; simp [IntKind.bits]; omega
  have hmk : ∀ w, (Instr.makeSlice 37 (.int .i64 m) (.int .i64 m)).run Tryz.prog w = .ok (.slice (some ⟨w.heap.size, 0, none⟩) m m) (w.alloc (.cells (Array.replicate (m * 2) (.int .i64 0)) 100)) := fun w => run_mkK (P := Tryz.prog) 37 100 _ (.int .i64 0) 16 2 (by omega) Tryz.underlying37 info_repComb rfl .i64 .i64 m m (by omega) (by omega) (by omega) w
  go_enter Tryz.func147, Tryz.ntmps147
  clear k1
  go_wp2_with fail
  refine (mul1_c m (by omega) _).mono ?_
  rintro e w' ⟨rfl, rfl⟩
  have k3 : IntKind.i64.wrap (m : Int) = (m : Int) := IntWalk.i64_in _ (by omega)
  have k4 : decide ((9223372036854775807 : Int) < (m : Int)) = false := decide_eq_false (by omega)
  have HB0 := Lib.hid (show (w.alloc (.cells (Array.replicate (m * 2) (.int .i64 0)) 100)).heap[w.heap.size]? = some (.cells (repC2 m 0 x).toArray 100 (0, 0)) by
    rw [heap_alloc_new, repC2_zero]; simp)
  obtain ⟨w2, hcp, HG2, hB2⟩ := copy_runK (P := Tryz.prog) 37 37 3 100 2 Tryz.underlying37 (by kernel_rfl) w.heap.size 0 m m ad 1 c0 (repC2 m 0 x) 100 (w.alloc (.cells (Array.replicate (m * 2) (.int .i64 0)) 100)) HB0.out [i64 x.1, i64 x.2] 1 (show min 1 m = 1 by omega) rfl
    (fun j u hj => by
      match j, hj with
      | 0, hj => simp at hj; subst hj; exact keepa _ hv
      | 1, hj => simp at hj; subst hj; rw [show ad.add 1 = ⟨ad.block, ad.off + 1, none⟩ by rw [Addr.add, if_neg (by omega)]]; exact keepa _ hv'
      | j + 2, hj => simp at hj) (by rw [repC2_len (by omega)]; simp; omega) (by intro u hu; simp at hu; rcases hu with rfl | rfl <;> rfl) w.heap.size w (below_size.alloc (Nat.le_refl _) _) (Nat.le_refl _)
  have G2 := Lib.hid (show w2.heap[w.heap.size]? = some (.cells (repC2 m 1 x).toArray 100 (0, 0)) by rw [HG2]; congr 2; exact congrArg List.toArray (repC2_splice (q := 0) (d := 1) (by omega)))
  have B2 := Lib.hid hB2
  clear hv hv' HG2 hB2
  clear k2 k3 k4 HB0
  go_wp2_with fail
  clear hmk hcp
  go_loopw [8] (fun qv wr => ∃ q : Nat, 1 ≤ q ∧ q ≤ m ∧ qv = .int .i64 q ∧ Hid (wr.heap[w.heap.size]? = some (.cells (repC2 m q x).toArray 100 (0, 0))) ∧ Below w.heap.size w wr) (fun qv _ => m - (intOf qv).toNat)
  case atStart => exact ⟨1, by omega, by omega, rfl, G2.out, B2.out⟩
  case round =>
    obtain ⟨q, hq1, hq, rfl, hG, hb⟩ := hrel
    have HB := Lib.hid hb
    have hwz := hb.size
    have hlt0 : w.heap.size < wr.heap.size := Blk.lt (show Blk wr w.heap.size 100 _ from hG.out)
    clear hb
    by_cases hlt : q < m
    · obtain ⟨d, hd⟩ : ∃ d, Nat.min q (m - q) = d := ⟨_, rfl⟩
      have hdq : 1 ≤ d ∧ q + d ≤ m ∧ d ≤ q := by
        have : Nat.min q (m - q) = min q (m - q) := rfl
        omega
      have hBl : Blk wr w.heap.size 100 (repC2 m q x).toArray := hG.out
      obtain ⟨w3, hcp, HG3, hB3⟩ := copy_runK (P := Tryz.prog) 37 37 3 100 2 Tryz.underlying37 (by kernel_rfl) w.heap.size (q * 2) (m - q) (m - q) ⟨w.heap.size, 0, none⟩ q m (repC2 m q x) 100 wr.drew hG.out ((List.replicate d x).flatMap enc2) d hd (by rw [flatX_len enc2 2 enc2_len]; simp)
        (fun j u hj => by
          rw [head_add]
          show wr.cell? _ = _
          rw [hBl.cell j, List.getElem?_toArray]
          exact repC2_at (repl_pre hdq.2.2 hj)) (by rw [repC2_len (by omega), flatX_len enc2 2 enc2_len]; simp; omega) repC2_one w.heap.size w (below_drew HB.out) (Nat.le_refl _)
      have G3 := Lib.hid (show w3.heap[w.heap.size]? = some (.cells (repC2 m (q + d) x).toArray 100 (0, 0)) by rw [HG3]; congr 2; exact congrArg List.toArray (repC2_splice (by omega)))
      have B3 := Lib.hid hB3
      clear HG3 hB3 hBl hd
      go_wp2_with fail
      refine Mix.wp_region_mix [0, 0, 0, 0, 0, 0, 0, 2, 0, 0] (fun w' => ∃ x : Ext wr, w' = x.w) (by kernel_rfl) (by kernel_rfl) (InExt.drew _) ?_
      repeat (first | (refine Mix.wpMix_read (by rfl) ?_; go_big_quiet_step (fail); refine wpQuiet_nil ?_) | (refine Mix.wpMix_pure (by rfl) ?_; go_big_quiet_step (fail); refine wpQuiet_nil ?_))
      refine Mix.wpMix_tail (by rfl) (fun K hK => ?_)
      go_wp2_with fail
      refine hK _ _ ?_
      clear hK K
      clear hcp
      repeat (first | (refine Mix.wpMix_read (by rfl) ?_; go_big_quiet_step (fail); refine wpQuiet_nil ?_) | (refine Mix.wpMix_pure (by rfl) ?_; go_big_quiet_step (fail); refine wpQuiet_nil ?_))
      (refine Mix.wpMix_nil ?_; try simp only [Exit.then])
      go_wp2_with fail
      go_roundw
      case rel => exact ⟨q + d, by omega, hdq.2.1, by go_num, G3.out, B3.out⟩
      case measure => simp [intOf]; omega
    · have HF := Lib.hid (show q = m by omega)
      go_wp2_with fail
      go_ret
      refine ⟨w.heap.size, rfl, ?_, HB.out⟩
      have hBl : Blk wr w.heap.size 100 (repC2 m q x).toArray := hG.out
      rw [HF.out] at hBl
      exact own_row hBl (Nat.le_refl _) (by rw [List.size_toArray, repC2_len (Nat.le_refl _)]) (by rw [← repC2_full]; exact List.take_of_length_le (by rw [repC2_len (Nat.le_refl _)]; exact Nat.le_refl _)) (by omega)
theorem info_repLam : (Tryz.prog.info? 62).map (fun i => (i.zero, i.size, i.bytes)) = some (some (.agg #[.int .i64 0, .int .i64 0]), 2, 16) := by kernel_rfl
set_option maxHeartbeats 4000000 in
set_option maxRecDepth 100000 in
theorem repeatLam_c (ad : Addr) (c0 : Nat) (x : Int × Int) (m : Nat) (w : World) (hv : w.cell? ad = some (i64 x.1)) (hv' : w.cell? ⟨ad.block, ad.off + 1, none⟩ = some (i64 x.2)) (hm : 1 ≤ m ∧ m ≤ 11) :
    Calls Tryz.prog 94 #[.slice (some ad) 1 c0, .int .i64 m] w fun e w' => ∃ g, e = .returned (.slice (some ⟨g, 0, none⟩) m m) ∧ Own w' w.heap.size 62 2 (some ⟨g, 0, none⟩) m m ((List.replicate m x).flatMap enc2) ∧ Below w.heap.size w w' := by
  have k1 : decide ((m : Int) < 0) = false := decide_eq_false (by omega)
  have k2 : IntKind.u64.wrap (m : Int) = (m : Int) := by rw [IntKind.wrap]; simp [IntKind.bits]; omega
  have hmk : ∀ w, (Instr.makeSlice 25 (.int .i64 m) (.int .i64 m)).run Tryz.prog w = .ok (.slice (some ⟨w.heap.size, 0, none⟩) m m) (w.alloc (.cells (Array.replicate (m * 2) (.int .i64 0)) 62)) := fun w => run_mkK (P := Tryz.prog) 25 62 _ (.int .i64 0) 16 2 (by omega) Tryz.underlying25 info_repLam rfl .i64 .i64 m m (by omega) (by omega) (by omega) w
  go_enter Tryz.func94, Tryz.ntmps94
  clear k1
  go_wp2_with fail
  refine (mul1_c m (by omega) _).mono ?_
  rintro e w' ⟨rfl, rfl⟩
  have k3 : IntKind.i64.wrap (m : Int) = (m : Int) := IntWalk.i64_in _ (by omega)
  have k4 : decide ((9223372036854775807 : Int) < (m : Int)) = false := decide_eq_false (by omega)
  have HB0 := Lib.hid (show (w.alloc (.cells (Array.replicate (m * 2) (.int .i64 0)) 62)).heap[w.heap.size]? = some (.cells (repC2 m 0 x).toArray 62 (0, 0)) by
    rw [heap_alloc_new, repC2_zero]; simp)
  obtain ⟨w2, hcp, HG2, hB2⟩ := copy_runK (P := Tryz.prog) 25 25 3 62 2 Tryz.underlying25 (by kernel_rfl) w.heap.size 0 m m ad 1 c0 (repC2 m 0 x) 62 (w.alloc (.cells (Array.replicate (m * 2) (.int .i64 0)) 62)) HB0.out [i64 x.1, i64 x.2] 1 (show min 1 m = 1 by omega) rfl
    (fun j u hj => by
      match j, hj with
      | 0, hj => simp at hj; subst hj; exact keepa _ hv
      | 1, hj => simp at hj; subst hj; rw [show ad.add 1 = ⟨ad.block, ad.off + 1, none⟩ by rw [Addr.add, if_neg (by omega)]]; exact keepa _ hv'
      | j + 2, hj => simp at hj) (by rw [repC2_len (by omega)]; simp; omega) (by intro u hu; simp at hu; rcases hu with rfl | rfl <;> rfl) w.heap.size w (below_size.alloc (Nat.le_refl _) _) (Nat.le_refl _)
  have G2 := Lib.hid (show w2.heap[w.heap.size]? = some (.cells (repC2 m 1 x).toArray 62 (0, 0)) by rw [HG2]; congr 2; exact congrArg List.toArray (repC2_splice (q := 0) (d := 1) (by omega)))
  have B2 := Lib.hid hB2
  clear hv hv' HG2 hB2
  clear k2 k3 k4 HB0
  go_wp2_with fail
  clear hmk hcp
  go_loopw [8] (fun qv wr => ∃ q : Nat, 1 ≤ q ∧ q ≤ m ∧ qv = .int .i64 q ∧ Hid (wr.heap[w.heap.size]? = some (.cells (repC2 m q x).toArray 62 (0, 0))) ∧ Below w.heap.size w wr) (fun qv _ => m - (intOf qv).toNat)
  case atStart => exact ⟨1, by omega, by omega, rfl, G2.out, B2.out⟩
  case round =>
    obtain ⟨q, hq1, hq, rfl, hG, hb⟩ := hrel
    have HB := Lib.hid hb
    have hwz := hb.size
    have hlt0 : w.heap.size < wr.heap.size := Blk.lt (show Blk wr w.heap.size 62 _ from hG.out)
    clear hb
    by_cases hlt : q < m
    · obtain ⟨d, hd⟩ : ∃ d, Nat.min q (m - q) = d := ⟨_, rfl⟩
      have hdq : 1 ≤ d ∧ q + d ≤ m ∧ d ≤ q := by
        have : Nat.min q (m - q) = min q (m - q) := rfl
        omega
      have hBl : Blk wr w.heap.size 62 (repC2 m q x).toArray := hG.out
      obtain ⟨w3, hcp, HG3, hB3⟩ := copy_runK (P := Tryz.prog) 25 25 3 62 2 Tryz.underlying25 (by kernel_rfl) w.heap.size (q * 2) (m - q) (m - q) ⟨w.heap.size, 0, none⟩ q m (repC2 m q x) 62 wr.drew hG.out ((List.replicate d x).flatMap enc2) d hd (by rw [flatX_len enc2 2 enc2_len]; simp)
        (fun j u hj => by
          rw [head_add]
          show wr.cell? _ = _
          rw [hBl.cell j, List.getElem?_toArray]
          exact repC2_at (repl_pre hdq.2.2 hj)) (by rw [repC2_len (by omega), flatX_len enc2 2 enc2_len]; simp; omega) repC2_one w.heap.size w (below_drew HB.out) (Nat.le_refl _)
      have G3 := Lib.hid (show w3.heap[w.heap.size]? = some (.cells (repC2 m (q + d) x).toArray 62 (0, 0)) by rw [HG3]; congr 2; exact congrArg List.toArray (repC2_splice (by omega)))
      have B3 := Lib.hid hB3
      clear HG3 hB3 hBl hd
      go_wp2_with fail
      refine Mix.wp_region_mix [0, 0, 0, 0, 0, 0, 0, 2, 0, 0] (fun w' => ∃ x : Ext wr, w' = x.w) (by kernel_rfl) (by kernel_rfl) (InExt.drew _) ?_
      repeat (first | (refine Mix.wpMix_read (by rfl) ?_; go_big_quiet_step (fail); refine wpQuiet_nil ?_) | (refine Mix.wpMix_pure (by rfl) ?_; go_big_quiet_step (fail); refine wpQuiet_nil ?_))
      refine Mix.wpMix_tail (by rfl) (fun K hK => ?_)
      go_wp2_with fail
      refine hK _ _ ?_
      clear hK K
      clear hcp
      repeat (first | (refine Mix.wpMix_read (by rfl) ?_; go_big_quiet_step (fail); refine wpQuiet_nil ?_) | (refine Mix.wpMix_pure (by rfl) ?_; go_big_quiet_step (fail); refine wpQuiet_nil ?_))
      (refine Mix.wpMix_nil ?_; try simp only [Exit.then])
      go_wp2_with fail
      go_roundw
      case rel => exact ⟨q + d, by omega, hdq.2.1, by go_num, G3.out, B3.out⟩
      case measure => simp [intOf]; omega
    · have HF := Lib.hid (show q = m by omega)
      go_wp2_with fail
      go_ret
      refine ⟨w.heap.size, rfl, ?_, HB.out⟩
      have hBl : Blk wr w.heap.size 62 (repC2 m q x).toArray := hG.out
      rw [HF.out] at hBl
      exact own_row hBl (Nat.le_refl _) (by rw [List.size_toArray, repC2_len (Nat.le_refl _)]) (by rw [← repC2_full]; exact List.take_of_length_le (by rw [repC2_len (Nat.le_refl _)]; exact Nat.le_refl _)) (by omega)

set_option maxHeartbeats 2000000 in
set_option maxRecDepth 100000 in
theorem repeatComb0_c (ad : Addr) (c0 : Nat) (x : Int × Int) (w : World) (_hv : w.cell? ad = some (i64 x.1)) :
    Calls Tryz.prog 147 #[.slice (some ad) 1 c0, .int .i64 0] w fun e w' => ∃ g, e = .returned (.slice (some ⟨g, 0, none⟩) 0 0) ∧ Own w' w.heap.size 100 2 (some ⟨g, 0, none⟩) 0 0 [] ∧ Below w.heap.size w w' := by
  have k2 : IntKind.u64.wrap (0 : Int) = (0 : Int) := by rw [IntKind.wrap]; simp [IntKind.bits]
  have hmk : ∀ w, (Instr.makeSlice 37 (.int .i64 0) (.int .i64 0)).run Tryz.prog w = .ok (.slice (some ⟨w.heap.size, 0, none⟩) 0 0) (w.alloc (.cells #[] 100)) := fun w => by
    have := run_mkK (P := Tryz.prog) 37 100 _ (.int .i64 0) 16 2 (by omega) Tryz.underlying37 info_repComb rfl .i64 .i64 0 0 (by omega) (by omega) (by omega) w
    simpa using this
  go_enter Tryz.func147, Tryz.ntmps147
  go_wp2_with fail
  refine (mul1_c 0 (by omega) _).mono ?_
  rintro e w' ⟨rfl, rfl⟩
  obtain ⟨w2, hcp, HG2, hB2⟩ := copy_runK (P := Tryz.prog) 37 37 3 100 2 Tryz.underlying37 (by kernel_rfl) w.heap.size 0 0 0 ad 1 c0 [] 100 (w.alloc (.cells #[] 100)) (heap_alloc_new w _) [] 0 rfl rfl
    (fun j u hj => by simp at hj) (by simp) (by intro u hu; cases hu) w.heap.size w (below_size.alloc (Nat.le_refl _) _) (Nat.le_refl _)
  have B2 := Lib.hid hB2
  have G2 := Lib.hid (show Own w2 w.heap.size 100 2 (some ⟨w.heap.size, 0, none⟩) 0 0 [] from own_row (show Blk w2 w.heap.size 100 #[] from HG2) (Nat.le_refl _) rfl rfl (by omega))
  clear HG2 hB2
  go_wp2_with fail
  clear hmk hcp
  go_loopw [8] (fun qv wr => qv = .int .i64 0 ∧ wr = w2) (fun qv _ => 0)
  case atStart => exact ⟨rfl, by first | rfl | trivial⟩
  case round =>
    obtain ⟨rfl, rfl⟩ := hrel
    go_wp2_with fail
    go_ret
    exact ⟨_, rfl, G2.out, B2.out⟩
theorem repeatCombM_c (ad : Addr) (c0 : Nat) (x : Int × Int) (m : Nat) (w : World) (hv : w.cell? ad = some (i64 x.1)) (hv' : w.cell? ⟨ad.block, ad.off + 1, none⟩ = some (i64 x.2)) (hm : m ≤ 11) :
    Calls Tryz.prog 147 #[.slice (some ad) 1 c0, .int .i64 m] w fun e w' => ∃ g, e = .returned (.slice (some ⟨g, 0, none⟩) m m) ∧ Own w' w.heap.size 100 2 (some ⟨g, 0, none⟩) m m ((List.replicate m x).flatMap enc2) ∧ Below w.heap.size w w' := by
  by_cases h0 : m = 0
  · subst h0
    refine (repeatComb0_c ad c0 x w hv).mono ?_
    rintro e w' ⟨g, rfl, ho, hb⟩
    exact ⟨g, rfl, ho, hb⟩
  · refine (repeatComb_c ad c0 x m w hv hv' ⟨by omega, hm⟩).mono ?_
    rintro e w' ⟨g, rfl, hw, hb⟩
    exact ⟨g, rfl, hw, hb⟩
set_option maxHeartbeats 2000000 in
set_option maxRecDepth 100000 in
theorem repeatLam0_c (ad : Addr) (c0 : Nat) (x : Int × Int) (w : World) (_hv : w.cell? ad = some (i64 x.1)) :
    Calls Tryz.prog 94 #[.slice (some ad) 1 c0, .int .i64 0] w fun e w' => ∃ g, e = .returned (.slice (some ⟨g, 0, none⟩) 0 0) ∧ Own w' w.heap.size 62 2 (some ⟨g, 0, none⟩) 0 0 [] ∧ Below w.heap.size w w' := by
  have k2 : IntKind.u64.wrap (0 : Int) = (0 : Int) := by rw [IntKind.wrap]; simp [IntKind.bits]
  have hmk : ∀ w, (Instr.makeSlice 25 (.int .i64 0) (.int .i64 0)).run Tryz.prog w = .ok (.slice (some ⟨w.heap.size, 0, none⟩) 0 0) (w.alloc (.cells #[] 62)) := fun w => by
    have := run_mkK (P := Tryz.prog) 25 62 _ (.int .i64 0) 16 2 (by omega) Tryz.underlying25 info_repLam rfl .i64 .i64 0 0 (by omega) (by omega) (by omega) w
    simpa using this
  go_enter Tryz.func94, Tryz.ntmps94
  go_wp2_with fail
  refine (mul1_c 0 (by omega) _).mono ?_
  rintro e w' ⟨rfl, rfl⟩
  obtain ⟨w2, hcp, HG2, hB2⟩ := copy_runK (P := Tryz.prog) 25 25 3 62 2 Tryz.underlying25 (by kernel_rfl) w.heap.size 0 0 0 ad 1 c0 [] 62 (w.alloc (.cells #[] 62)) (heap_alloc_new w _) [] 0 rfl rfl
    (fun j u hj => by simp at hj) (by simp) (by intro u hu; cases hu) w.heap.size w (below_size.alloc (Nat.le_refl _) _) (Nat.le_refl _)
  have B2 := Lib.hid hB2
  have G2 := Lib.hid (show Own w2 w.heap.size 62 2 (some ⟨w.heap.size, 0, none⟩) 0 0 [] from own_row (show Blk w2 w.heap.size 62 #[] from HG2) (Nat.le_refl _) rfl rfl (by omega))
  clear HG2 hB2
  go_wp2_with fail
  clear hmk hcp
  go_loopw [8] (fun qv wr => qv = .int .i64 0 ∧ wr = w2) (fun qv _ => 0)
  case atStart => exact ⟨rfl, by first | rfl | trivial⟩
  case round =>
    obtain ⟨rfl, rfl⟩ := hrel
    go_wp2_with fail
    go_ret
    exact ⟨_, rfl, G2.out, B2.out⟩
theorem repeatLamM_c (ad : Addr) (c0 : Nat) (x : Int × Int) (m : Nat) (w : World) (hv : w.cell? ad = some (i64 x.1)) (hv' : w.cell? ⟨ad.block, ad.off + 1, none⟩ = some (i64 x.2)) (hm : m ≤ 11) :
    Calls Tryz.prog 94 #[.slice (some ad) 1 c0, .int .i64 m] w fun e w' => ∃ g, e = .returned (.slice (some ⟨g, 0, none⟩) m m) ∧ Own w' w.heap.size 62 2 (some ⟨g, 0, none⟩) m m ((List.replicate m x).flatMap enc2) ∧ Below w.heap.size w w' := by
  by_cases h0 : m = 0
  · subst h0
    refine (repeatLam0_c ad c0 x w hv).mono ?_
    rintro e w' ⟨g, rfl, ho, hb⟩
    exact ⟨g, rfl, ho, hb⟩
  · refine (repeatLam_c ad c0 x m w hv hv' ⟨by omega, hm⟩).mono ?_
    rintro e w' ⟨g, rfl, hw, hb⟩
    exact ⟨g, rfl, hw, hb⟩
end Go.Proofs.YtebjpmmgdkepjaaGreatDoor
/-
  A struct that is built in a region that draws its order; a part of a slice from its start.
-/
namespace Go.Proofs.YtebjpmmgdkepjaaGreatDoor
open Go.RowKit

/-- a struct that is built, in a region that draws its order -/
theorem Mix.wpMix_build {P : Program} {ops : Array Oper} {C : World → Prop} {Q : Act → World → Prop} {o : Oper} {ks : List Nat} {l : List Oper} {a : Act} {w : World} (hw : Region.wanted o (yielded ops a.tmps) = true) (t : TypeId) (ps : Array (Nat × Operand)) (ho : o.op = .build t ps) (v : Value)
    (hrun : ∀ w, (Instr.build t (ps.map fun (i, x) => (i, a.eval x))).run P w = .ok v w) (h : Mix.wpMix P ops C Q ks l (a.put o.dst v) w) : Mix.wpMix P ops C Q (0 :: ks) (o :: l) a w := by
  unfold Mix.wpMix
  rw [if_pos hw, if_pos rfl]
  refine ⟨v, fun w => ?_, h⟩
  refine .inl ?_
  unfold Mix.readAt
  simp only [execOp, ho, Sem.run_bind, hrun, Result.andThen_ok, Sem.run_pure]
theorem RdI.take {w : World} {A : Option Addr} {n k : Nat} {xs : List Int} (h : RdI w A n xs) (hk : k ≤ n) : RdI w A k (xs.take k) := by
  have hl := h.len
  refine ⟨by rw [List.length_map, List.length_take]; omega, fun h0 => ?_⟩
  obtain ⟨ad, e, hb, hc⟩ := h.2 (by omega)
  refine ⟨ad, e, hb, fun j u hj => hc j u ?_⟩
  rw [List.map_take, List.getElem?_take] at hj
  split at hj
  · exact hj
  · cases hj
theorem RdI.drop {w : World} {ad : Addr} {n k : Nat} {xs : List Int} (h : RdI w (some ad) n xs) (hk : k ≤ n) : RdI w (some (ad.add k)) (n - k) (xs.drop k) :=
  ⟨by rw [List.length_map, List.length_drop, h.len], fun hp => by
    obtain ⟨ad', e', hlt, hcs⟩ := h.2 (by omega)
    injection e' with e'; subst e'
    refine ⟨_, rfl, by rw [block_add]; exact hlt, fun j u hj => ?_⟩
    rw [add_add]
    refine hcs (k + j) u ?_
    rw [List.getElem?_map] at hj ⊢
    rw [List.getElem?_drop] at hj; exact hj⟩
theorem RdI.mid {w : World} {ad : Addr} {n i k : Nat} {xs : List Int} (h : RdI w (some ad) n xs) (hk : i + k ≤ n) : RdI w (some (ad.add i)) k ((xs.drop i).take k) := (h.drop (by omega)).take (by omega)
end Go.Proofs.YtebjpmmgdkepjaaGreatDoor
/-
  Contracts of chapter 12: the program's step and run of a combinator term.
-/
namespace Go.Proofs.YtebjpmmgdkepjaaGreatDoor
open Go.RowKit

set_option maxHeartbeats 2000000 in
set_option maxRecDepth 100000 in
theorem argumentsYes_c (ad : Addr) (n cp : Nat) (c : List (Int × Int)) (k : Nat) (kind M : Int) (many a z : Nat) (w : World) (h : Rd2 w (some ad) n c) (hn : n ≤ 400) (hnc : n ≤ cp) (hf : tryF (c.drop k) kind many = true) (hM : M = (many : Int)) (hm : many ≤ 3) (hkn : kind ≠ 0)
    (ha : k + many + 1 = a) (hz : endI c a many = z) (hzn : z ≤ n) (hE : ∀ i, i < many → ∃ p, endP manyC (c.drop (endI c a i)) 1 = some p ∧ endI c a i + p = endI c a (i + 1) ∧ 1 ≤ p) :
    Calls Tryz.prog 210 #[.slice (some ad) n cp, .int .i64 k, .int .i64 kind, .int .i64 M] w fun e w' => ∃ B cc, e = .returned (.tuple #[.slice B many cc, .int .i64 z]) ∧ Own w' w.heap.size 37 1 B many cc (argVs ad cp c a many) ∧ Below w.heap.size w w' := by
  subst hM
  have HL := Lib.hid h.len
  have H := Lib.hid h; have HF := Lib.hid hf; have HE := Lib.hid hE; have HA := Lib.hid ha; have HZZ := Lib.hid hz
  have HZ := Lib.hid (show ∀ i, i ≤ many → endI c a i ≤ z from fun i hi => by rw [← hz]; exact endI_mono hi)
  have hkm : k + many < n := by
    obtain ⟨_, x, hx, _⟩ := tryF_true hkn hf
    rw [List.getElem?_drop] at hx
    have := (List.getElem?_eq_some_iff.1 hx).1
    rw [h.len] at this; exact this
  clear h hf hE ha hz
  go_enter Tryz.func210, Tryz.ntmps210
  go_wp2_with fail
  go_loop [15] (fun iv => ∃ i : Nat, i ≤ many ∧ iv = .int .i64 i ∧ Hid (tryF (c.drop (k + i)) kind (many - i) = true)) (fun iv => many - (intOf iv).toNat)
  case atStart => exact ⟨0, by omega, rfl, HF.out⟩
  case round =>
    obtain ⟨i, hi, rfl, hr⟩ := hrel
    by_cases hlt : i < many
    · obtain ⟨_, x, e, hab, hx, hc0, hc1⟩ := H.out.at_ (k := k + i) (by omega)
      injection e with e; subst e
      obtain ⟨p, v⟩ := x
      have HS := Lib.hid (show ((p == 0) && tryF (c.drop (k + (i + 1))) kind (many - (i + 1))) = true by rw [← hr.out, drop_at hx, show many - i = many - (i + 1) + 1 by omega]; rfl)
      simp only at hc0 hc1
      have h0 : p = 0 := by have := HS.out; simp at this; exact this.1
      have HG := Lib.hid (show tryF (c.drop (k + (i + 1))) kind (many - (i + 1)) = true by have := HS.out; simp at this; exact this.2)
      subst h0
      clear hx hr HS
      go_wp2_with fail
      go_round
      case rel => exact ⟨i + 1, by omega, by go_num, HG.out⟩
      case measure => simp [intOf]; omega
    · obtain rfl : i = many := by omega
      obtain ⟨_, x, e, hab, hx, hc0, hc1⟩ := H.out.at_ (k := k + i) (by omega)
      injection e with e; subst e
      obtain ⟨p, v⟩ := x
      have gp : p = kind := by
        have := hr.out
        rw [Nat.sub_self, drop_at hx] at this
        simpa [tryF] using this
      subst gp
      simp only at hc0 hc1
      clear hx hr
      go_wp2_with fail
      go_loopw [11, 12, 55] (fun ev av iv wr => ∃ (j : Nat) (B : Option Addr) (cc : Nat), j ≤ i ∧ iv = .int .i64 j ∧ ev = .int .i64 (endI c a j) ∧ av = .slice B j cc ∧ Hid (Own wr w.heap.size 37 1 B j cc (argVs ad cp c a j)) ∧ Below w.heap.size w wr) (fun _ _ iv _ => i - (intOf iv).toNat)
      case atStart => exact ⟨0, some ⟨w.heap.size, 0, none⟩, 0, by omega, rfl, by rw [show endI c a 0 = k + i + 1 from HA.out.symm]; go_num, rfl, Own.lit (Nat.le_refl _), below_size.alloc (Nat.le_refl _) _⟩
      case round =>
        obtain ⟨j, B, cc, hj, rfl, rfl, rfl, hO, hb⟩ := hrel
        have EB := Lib.hid hb
        have hwz := hb.size
        by_cases hlt2 : j < i
        · obtain ⟨p, hp, he, hp1⟩ := HE.out j hlt2
          have hz1 := HZ.out (j + 1) (by omega)
          obtain ⟨e0, he0⟩ : ∃ e0, endI c a j = e0 := ⟨_, rfl⟩
          obtain ⟨e1, he1⟩ : ∃ e1, endI c a (j + 1) = e1 := ⟨_, rfl⟩
          have HN := Lib.hid (show argV ad cp c a j = .slice (some (ad.add (e0 * 2))) (e1 - e0) (cp - e0) by rw [argV, he0, he1])
          rw [he0] at hp he
          rw [he1] at he hz1
          have HP := Lib.hid (show resE manyC c e0 1 = (e1 : Int) by rw [resE_some hp, he])
          have HE0 := Lib.hid he0; have HE1 := Lib.hid he1
          have R := Lib.hid (H.out.below EB.out)
          rw [he0]
          clear hp he0 he1 hb
          go_wp2_with (first | (go_at_call 69; refine (combEnd_c _ _ _ c e0 e1 _ R.out (by omega) (by omega) HP.out).mono ?_; rintro e w2 ⟨rfl, hb2⟩; have E2 := Lib.hid (below_chain EB.out EB.out.size hb2); have O2 := Lib.hid (hO.out.keep hb2); have hz2 := hb2.size; clear hb2) | (at_builtin; refine wp_app1 (by rfl) _ _ 115 37 (.slice none 0 0) 24 (by rfl) Tryz.underlying115 info_sComb rfl w.heap.size B j cc (argVs ad cp c a j) (by rfl) (by exact O2.out.alloc _) w2.heap.size (argV ad cp c a j) (by rfl) (by rw [HN.out]; exact new_cell _ _ _ 0) (by rw [HN.out]; rfl) (by omega) (by omega) (by simp; omega) ?_; intro g' cap w3 own3 hb3 hk3 hg3 hz3))
          have O3 := Lib.hid own3; have E3 := Lib.hid ((E2.out.alloc (by omega) _).trans hb3)
          clear own3 hb3 hk3 hg3 hz3
          go_wp2_with fail
          go_roundw
          case rel => exact ⟨j + 1, some ⟨g', 0, none⟩, cap, by omega, by go_num, by rw [HE1.out], rfl, by unfold Hid; rw [argVs_succ]; exact O3.out, E3.out⟩
          case measure => simp [intOf]; omega
        · obtain rfl : j = i := by omega
          rw [HZZ.out]
          go_wp2_with fail
          go_ret2
          exact ⟨B, cc, rfl, hO.out, EB.out⟩
/-- lists of pairs, one behind the other -/
def itC (A : Option Addr) (n c : Nat) (xs : List (Int × Int)) : ItV := ⟨A, n, c, xs.flatMap enc2⟩
theorem rdVC {w : World} {g : Nat} {t : TypeId} {vs : Array Value} {its : List ItV} {n : Nat} (hg : Blk w g t vs) (hv : vs.toList = its.map hdV) (hn : its.length = n) (h : ∀ i ∈ its, Rd w i.A (i.n * 2) i.vs ∧ ∀ u ∈ i.vs, u.oneCell' = true) : RdV w 2 (some ⟨g, 0, none⟩) n its := by
  have hs : vs.size = n := by rw [← Array.length_toList, hv, List.length_map, hn]
  exact ⟨hg.rd (by rw [hv]; exact List.take_of_length_le (by rw [List.length_map]; omega)) (by omega), fun t ht => (h t ht).1, fun t ht => (h t ht).2⟩
theorem itC_ok {w : World} {A : Option Addr} {n c : Nat} {xs : List (Int × Int)} (h : Rd2 w A n xs) : Rd w (itC A n c xs).A ((itC A n c xs).n * 2) (itC A n c xs).vs ∧ ∀ u ∈ (itC A n c xs).vs, u.oneCell' = true := ⟨h, one_pairs xs⟩
set_option maxHeartbeats 1000000 in
theorem appliedComb_c (x : Int × Int) (A : Option Addr) (n c : Nat) (xs : List (Int × Int)) (G : Option Addr) (m mc N : Nat) (its : List ItV) (w : World) (h : Rd2 w A n xs) (hG : RdV w 2 G m its) (hm : m ≤ 11) (hn : n ≤ 1000000) (hs : sumV its ≤ 1000000) (hN : m + n + sumV its = N) :
    Calls Tryz.prog 110 #[.agg #[.int .i64 x.1, .int .i64 x.2], .slice A n c, .slice G m mc] w (CatOut 2 N ((List.replicate m x).flatMap enc2 ++ xs.flatMap enc2 ++ its.flatMap ItV.vs) w) := by
  have H := Lib.hid h; have HG := Lib.hid hG; have HN := Lib.hid hN
  obtain ⟨VV, hVV⟩ : ∃ VV, (List.replicate m x).flatMap enc2 ++ xs.flatMap enc2 ++ its.flatMap ItV.vs = VV := ⟨_, rfl⟩
  rw [hVV]
  have HV := Lib.hid hVV
  clear h hG hN hVV
  have a0 : ((w.alloc (.cells #[.int .i64 x.1, .int .i64 x.2] 100)).alloc (.cells #[.int .i64 x.1, .int .i64 x.2] 100)).cell? ⟨w.heap.size + 1, 0, none⟩ = some (i64 x.1) := by
    have := new_cells2 (w := w) (.cells #[.int .i64 x.1, .int .i64 x.2] 100) (i64 x.1) (i64 x.2) 100 0 _ rfl; rwa [addrZ] at this
  have a1 : ((w.alloc (.cells #[.int .i64 x.1, .int .i64 x.2] 100)).alloc (.cells #[.int .i64 x.1, .int .i64 x.2] 100)).cell? ⟨w.heap.size + 1, 0 + 1, none⟩ = some (i64 x.2) := by
    have := new_cells2 (w := w) (.cells #[.int .i64 x.1, .int .i64 x.2] 100) (i64 x.1) (i64 x.2) 100 1 _ rfl; rwa [addr1] at this
  have A0 := Lib.hid a0; have A1 := Lib.hid a1
  clear a0 a1
  go_enter Tryz.func110, Tryz.ntmps110
  go_wp2_with fail
  refine (repeatCombM_c ⟨w.heap.size + 1, 0, none⟩ 1 x m _ A0.out A1.out hm).mono ?_
  rintro e w1 ⟨g1, rfl, hw1, hb1⟩
  have B1 := Lib.hid (up2 hb1)
  have W1 := Lib.hid (show Rd2 w1 (some ⟨g1, 0, none⟩) m (List.replicate m x) from hw1.wrK.rd)
  clear hw1 hb1 A0 A1
  go_wp2_with fail
  refine (concatComb_c G m mc its w1 (HG.out.below B1.out) (by omega) (by omega)).mono ?_
  rintro e w2 ⟨A2, c2, rfl, hw2, hc2, hb2⟩
  obtain ⟨M, hM⟩ : ∃ M, sumV its = M := ⟨_, rfl⟩
  rw [hM] at hw2 hc2 hs
  rw [hM]
  have HM := Lib.hid hM
  have B2 := Lib.hid (below_chain B1.out B1.out.size hb2)
  have W1' := Lib.hid (W1.out.below hb2); have W2 := Lib.hid hw2.rd
  have H2 := Lib.hid (H.out.below B2.out)
  have HRV := Lib.hid (show RdV (w2.alloc (.cells #[.slice (some ⟨g1, 0, none⟩) m m, .slice A n c, .slice A2 M c2] 37)) 2 (some ⟨w2.heap.size, 0, none⟩) 3 [itC (some ⟨g1, 0, none⟩) m m (List.replicate m x), itC A n c xs, ⟨A2, M, c2, its.flatMap ItV.vs⟩] from
    rdVC (Blk.new _ _ _) (by simp [hdV, itC]) rfl (fun i hi => by
      simp only [List.mem_cons, List.not_mem_nil, or_false] at hi
      rcases hi with rfl | rfl | rfl
      · exact itC_ok (W1'.out.alloc _)
      · exact itC_ok (H2.out.alloc _)
      · refine ⟨W2.out.alloc _, fun u hu => ?_⟩
        obtain ⟨t, ht, hu⟩ := List.mem_flatMap.1 hu
        exact HG.out.one t ht u hu))
  clear hw2 hb2 hM W1 W1' W2 H2
  go_wp2_with fail
  refine (concatComb_c _ 3 3 _ _ HRV.out (by omega) (by simp [sumV, itC]; omega)).mono ?_
  rintro e w3 ⟨A3, c3, rfl, hw3, hc3, hb3⟩
  have hS : sumV [itC (some ⟨g1, 0, none⟩) m m (List.replicate m x), itC A n c xs, (⟨A2, M, c2, its.flatMap ItV.vs⟩ : ItV)] = N := by simp [sumV, itC]; have := HN.out; have := HM.out; omega
  have hF : [itC (some ⟨g1, 0, none⟩) m m (List.replicate m x), itC A n c xs, (⟨A2, M, c2, its.flatMap ItV.vs⟩ : ItV)].flatMap ItV.vs = VV := by rw [← HV.out]; simp [itC]
  rw [hS, hF] at hw3
  rw [hS] at hc3
  rw [hS]
  have W3 := Lib.hid (hw3.wider (lo' := w.heap.size) (by have := B2.out.size; simp; omega) (Nat.le_refl _)); have B3 := Lib.hid (below_chain B2.out B2.out.size (up1 hb3))
  clear hw3 hb3 hS hF
  go_wp2_with fail
  go_ret
  exact ⟨A3, c3, rfl, W3.out, hc3, B3.out⟩
end Go.Proofs.YtebjpmmgdkepjaaGreatDoor
