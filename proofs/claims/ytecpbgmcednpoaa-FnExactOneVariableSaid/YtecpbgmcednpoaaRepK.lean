/-
  slices.Repeat of a list of one element of two numbers: so many of them.
-/
import Derived.Test.YtecpbgmcednpoaaRep
import Derived.Test.YtecpbgmcednpoaaC12b
namespace Go.Proofs.Ytecpbgmcednpoaa
open Go.RowKit

/-- copy of elements of k cells -/
theorem run_copy_rowK {P : Program} (w : World) (dT sT ty elem : TypeId) (g o dLen dCap : Nat) (a : Addr) (sLen sCap k : Nat) (cur : Array Value) (t : TypeId) (cs : List Value)
    (hu : P.underlying dT = some (.slice elem)) (hs : (P.info? elem).map (·.size) = some k)
    (hg : w.heap[g]? = some (.cells cur t (0, 0))) (hn : cs.length = Nat.min sLen dLen * k)
    (hsrc : ∀ j v, cs[j]? = some v → w.cell? (a.add j) = some v) (hfit : o + cs.length ≤ cur.size) (h1 : ∀ v ∈ cs, v.oneCell' = true) :
    (Builtin.copy_ #[dT, sT] ty #[.slice (some ⟨g, o, none⟩) dLen dCap, .slice (some a) sLen sCap]).run P w =
      .ok (goInt (Nat.min sLen dLen)) (w.setRow g (cur.toList.take o ++ cs ++ cur.toList.drop (o + cs.length)).toArray) := by
  have hl := run_loadCells_list (P := P) w a cs hsrc
  have hst := run_storeCells_at P g o t cs 0 cur w hg (by simpa using hfit) h1
  cases hq : P.info? elem with
  | none => simp [hq] at hs
  | some i =>
    have hi : i.size = k := by simpa [hq] using hs
    simp [Builtin.copy_, run_underlying hu, Builtin.lenOf, Builtin.firstCells, sizeOf, typeInfo, hq, hi, ← hn, hl, hst]
theorem copy_runK {P : Program} (dT sT ty elem : TypeId) (k : Nat) (hu : P.underlying dT = some (.slice elem)) (hsz : (P.info? elem).map (·.size) = some k) (g off dLen dCap : Nat) (ad : Addr) (sLen sCap : Nat) (cur : List Value) (t : TypeId) (w : World) (hg : w.heap[g]? = some (.cells cur.toArray t (0, 0)))
    (cs : List Value) (d : Nat) (hd : Nat.min sLen dLen = d) (hn : cs.length = d * k) (hsrc : ∀ j v, cs[j]? = some v → w.cell? (ad.add j) = some v) (hfit : off + cs.length ≤ cur.length) (h1 : ∀ v ∈ cs, v.oneCell' = true) (B : Nat) (w0 : World) (hb : Below B w0 w) (hBg : B ≤ g) :
    ∃ w', (Builtin.copy_ #[dT, sT] ty #[.slice (some ⟨g, off, none⟩) dLen dCap, .slice (some ad) sLen sCap]).run P w = .ok (.int .i64 d) w' ∧ w'.heap[g]? = some (.cells (splice cur off cs).toArray t (0, 0)) ∧ Below B w0 w' := by
  subst hd
  exact ⟨_, run_copy_rowK (P := P) w dT sT ty elem g off dLen dCap ad sLen sCap k cur.toArray t cs hu hsz hg hn hsrc (by simpa using hfit) h1, by simpa [splice] using setRow_heap w g _ _ t _ hg, below_setRow hb hBg _⟩
/-- q elements done of m -/
def repC2 (m q : Nat) (x : Int × Int) : List Value := (List.replicate q x ++ List.replicate (m - q) (0, 0)).flatMap enc2
theorem repC2_len {m q : Nat} {x : Int × Int} (h : q ≤ m) : (repC2 m q x).length = m * 2 := by rw [repC2, flatX_len enc2 2 enc2_len]; simp; omega
theorem repC2_splice {m q d : Nat} {x : Int × Int} (_h : q + d ≤ m) : splice (repC2 m q x) (q * 2) ((List.replicate d x).flatMap enc2) = repC2 m (q + d) x := by
  unfold splice repC2
  rw [flat_take, flatX_len enc2 2 enc2_len, List.length_replicate, ← Nat.add_mul, flat_drop, ← List.flatMap_append, ← List.flatMap_append]
  rw [List.take_left' (by simp), List.drop_append, List.length_replicate, show q + d - q = d by omega, List.drop_eq_nil_of_le (by simp), List.nil_append, List.drop_replicate, ← List.append_assoc, List.replicate_append_replicate, show m - q - d = m - (q + d) by omega]
theorem repC2_full {m : Nat} {x : Int × Int} : repC2 m m x = (List.replicate m x).flatMap enc2 := by simp [repC2]
theorem repC2_zero (m : Nat) (x : Int × Int) : repC2 m 0 x = List.replicate (m * 2) (i64 0) := by
  simp only [repC2, List.replicate_zero, List.nil_append, Nat.sub_zero]
  induction m with
  | zero => rfl
  | succ m ih => rw [List.replicate_succ, List.flatMap_cons, ih, Nat.succ_mul]; rfl
theorem repC2_at {m q j : Nat} {x : Int × Int} {u : Value} (h : ((List.replicate q x).flatMap enc2)[j]? = some u) : (repC2 m q x)[j]? = some u := by
  rw [repC2, List.flatMap_append, List.getElem?_append_left (List.getElem?_eq_some_iff.1 h).1]; exact h
theorem repC2_one {d : Nat} {x : Int × Int} : ∀ u ∈ (List.replicate d x).flatMap enc2, u.oneCell' = true := by
  intro u hu
  obtain ⟨y, _, hy⟩ := List.mem_flatMap.1 hu
  rcases List.mem_cons.1 hy with rfl | hy
  · rfl
  · rw [List.mem_singleton] at hy; subst hy; rfl
theorem repl_pre {d q j : Nat} {x : Int × Int} {u : Value} (hd : d ≤ q) (h : ((List.replicate d x).flatMap enc2)[j]? = some u) : ((List.replicate q x).flatMap enc2)[j]? = some u := by
  obtain ⟨r, rfl⟩ := Nat.exists_eq_add_of_le hd
  rw [← List.replicate_append_replicate, List.flatMap_append, List.getElem?_append_left (List.getElem?_eq_some_iff.1 h).1]; exact h
theorem own_row {w : World} {B g m k : Nat} {e : TypeId} {cs : Array Value} {vs : List Value} (hb : Blk w g e cs) (hB : B ≤ g) (hs : cs.size = m * k) (hv : cs.toList.take (m * k) = vs) (hm : m ≤ 1000000) : Own w B e k (some ⟨g, 0, none⟩) m m vs := by
  have hl : vs.length = m * k := by rw [← hv, List.length_take, Array.length_toList, hs, Nat.min_self]
  exact ⟨hl, .inr ⟨g, m, cs, rfl, hB, hb, Nat.le_refl _, by simp [maxLen]; omega, hs, hv⟩⟩
theorem info_repExpr : (Try.prog.info? 49).map (fun i => (i.zero, i.size, i.bytes)) = some (some (.agg #[.int .i64 0, .int .i64 0]), 2, 16) := by kernel_rfl
set_option maxHeartbeats 4000000 in
set_option maxRecDepth 100000 in
theorem repeatExpr_c (ad : Addr) (c0 : Nat) (x : Int × Int) (m : Nat) (w : World) (hv : w.cell? ad = some (i64 x.1)) (hv' : w.cell? ⟨ad.block, ad.off + 1, none⟩ = some (i64 x.2)) (hm : 1 ≤ m ∧ m ≤ 11) :
    Calls Try.prog 86 #[.slice (some ad) 1 c0, .int .i64 m] w fun e w' => ∃ g, e = .returned (.slice (some ⟨g, 0, none⟩) m m) ∧ Own w' w.heap.size 49 2 (some ⟨g, 0, none⟩) m m ((List.replicate m x).flatMap enc2) ∧ Below w.heap.size w w' := by
  have k1 : decide ((m : Int) < 0) = false := decide_eq_false (by omega)
  have k2 : IntKind.u64.wrap (m : Int) = (m : Int) := by rw [IntKind.wrap]; simp [IntKind.bits]; omega
  have hmk : ∀ w, (Instr.makeSlice 44 (.int .i64 m) (.int .i64 m)).run Try.prog w = .ok (.slice (some ⟨w.heap.size, 0, none⟩) m m) (w.alloc (.cells (Array.replicate (m * 2) (.int .i64 0)) 49)) := fun w => run_mkK (P := Try.prog) 44 49 _ (.int .i64 0) 16 2 (by omega) Try.underlying44 info_repExpr rfl .i64 .i64 m m (by omega) (by omega) (by omega) w
  go_enter Try.func86, Try.ntmps86
  clear k1
  go_wp2_with fail
  refine (mul1_c m (by omega) _).mono ?_
  rintro e w' ⟨rfl, rfl⟩
  have k3 : IntKind.i64.wrap (m : Int) = (m : Int) := IntWalk.i64_in _ (by omega)
  have k4 : decide ((9223372036854775807 : Int) < (m : Int)) = false := decide_eq_false (by omega)
  have HB0 := Lib.hid (show (w.alloc (.cells (Array.replicate (m * 2) (.int .i64 0)) 49)).heap[w.heap.size]? = some (.cells (repC2 m 0 x).toArray 49 (0, 0)) by
    rw [heap_alloc_new, repC2_zero]; simp)
  obtain ⟨w2, hcp, HG2, hB2⟩ := copy_runK (P := Try.prog) 44 44 3 49 2 Try.underlying44 (by kernel_rfl) w.heap.size 0 m m ad 1 c0 (repC2 m 0 x) 49 (w.alloc (.cells (Array.replicate (m * 2) (.int .i64 0)) 49)) HB0.out [i64 x.1, i64 x.2] 1 (show min 1 m = 1 by omega) rfl
    (fun j u hj => by
      match j, hj with
      | 0, hj => simp at hj; subst hj; exact keepa _ hv
      | 1, hj => simp at hj; subst hj; rw [show ad.add 1 = ⟨ad.block, ad.off + 1, none⟩ by rw [Addr.add, if_neg (by omega)]]; exact keepa _ hv'
      | j + 2, hj => simp at hj) (by rw [repC2_len (by omega)]; simp; omega) (by intro u hu; simp at hu; rcases hu with rfl | rfl <;> rfl) w.heap.size w (below_size.alloc (Nat.le_refl _) _) (Nat.le_refl _)
  have G2 := Lib.hid (show w2.heap[w.heap.size]? = some (.cells (repC2 m 1 x).toArray 49 (0, 0)) by rw [HG2]; congr 2; exact congrArg List.toArray (repC2_splice (q := 0) (d := 1) (by omega)))
  have B2 := Lib.hid hB2
  clear hv hv' HG2 hB2
  clear k2 k3 k4 HB0
  go_wp2_with fail
  clear hmk hcp
  go_loopw [8] (fun qv wr => ∃ q : Nat, 1 ≤ q ∧ q ≤ m ∧ qv = .int .i64 q ∧ Hid (wr.heap[w.heap.size]? = some (.cells (repC2 m q x).toArray 49 (0, 0))) ∧ Below w.heap.size w wr) (fun qv _ => m - (intOf qv).toNat)
  case atStart => exact ⟨1, by omega, by omega, rfl, G2.out, B2.out⟩
  case round =>
    obtain ⟨q, hq1, hq, rfl, hG, hb⟩ := hrel
    have HB := Lib.hid hb
    have hwz := hb.size
    have hlt0 : w.heap.size < wr.heap.size := Blk.lt (show Blk wr w.heap.size 49 _ from hG.out)
    clear hb
    by_cases hlt : q < m
    · obtain ⟨d, hd⟩ : ∃ d, Nat.min q (m - q) = d := ⟨_, rfl⟩
      have hdq : 1 ≤ d ∧ q + d ≤ m ∧ d ≤ q := by
        have : Nat.min q (m - q) = min q (m - q) := rfl
        omega
      have hBl : Blk wr w.heap.size 49 (repC2 m q x).toArray := hG.out
      obtain ⟨w3, hcp, HG3, hB3⟩ := copy_runK (P := Try.prog) 44 44 3 49 2 Try.underlying44 (by kernel_rfl) w.heap.size (q * 2) (m - q) (m - q) ⟨w.heap.size, 0, none⟩ q m (repC2 m q x) 49 wr.drew hG.out ((List.replicate d x).flatMap enc2) d hd (by rw [flatX_len enc2 2 enc2_len]; simp)
        (fun j u hj => by
          rw [head_add]
          show wr.cell? _ = _
          rw [hBl.cell j, List.getElem?_toArray]
          exact repC2_at (repl_pre hdq.2.2 hj)) (by rw [repC2_len (by omega), flatX_len enc2 2 enc2_len]; simp; omega) repC2_one w.heap.size w (below_drew HB.out) (Nat.le_refl _)
      have G3 := Lib.hid (show w3.heap[w.heap.size]? = some (.cells (repC2 m (q + d) x).toArray 49 (0, 0)) by rw [HG3]; congr 2; exact congrArg List.toArray (repC2_splice (by omega)))
      have B3 := Lib.hid hB3
      clear HG3 hB3 hBl hd
      go_wp2_with fail
      refine Mix.wp_region_mix [0, 0, 0, 0, 0, 0, 0, 2, 0, 0] (fun w' => ∃ x : Ext wr, w' = x.w) (by kernel_rfl) (by kernel_rfl) (InExt.drew _) ?_
      repeat (first | (refine Mix.wpMix_read (by rfl) ?_; go_big_quiet_step (fail); refine wpQuiet_nil ?_) | (refine Mix.wpMix_pure (by rfl) ?_; go_big_quiet_step (fail); refine wpQuiet_nil ?_))
      refine Mix.wpMix_tail (by rfl) (fun K hK => ?_)
      go_wp2_with fail
      refine hK _ _ ?_
      clear hK K
      clear hcp
      repeat (first | (refine Mix.wpMix_read (by rfl) ?_; go_big_quiet_step (fail); refine wpQuiet_nil ?_) | (refine Mix.wpMix_pure (by rfl) ?_; go_big_quiet_step (fail); refine wpQuiet_nil ?_))
      (refine Mix.wpMix_nil ?_; try simp only [Exit.then])
      go_wp2_with fail
      go_roundw
      case rel => exact ⟨q + d, by omega, hdq.2.1, by go_num, G3.out, B3.out⟩
      case measure => simp [intOf]; omega
    · have HF := Lib.hid (show q = m by omega)
      go_wp2_with fail
      go_ret
      refine ⟨w.heap.size, rfl, ?_, HB.out⟩
      have hBl : Blk wr w.heap.size 49 (repC2 m q x).toArray := hG.out
      rw [HF.out] at hBl
      exact own_row hBl (Nat.le_refl _) (by rw [List.size_toArray, repC2_len (Nat.le_refl _)]) (by rw [← repC2_full]; exact List.take_of_length_le (by rw [repC2_len (Nat.le_refl _)]; exact Nat.le_refl _)) (by omega)

set_option maxHeartbeats 2000000 in
set_option maxRecDepth 100000 in
theorem repeatExpr0_c (ad : Addr) (c0 : Nat) (x : Int × Int) (w : World) (_hv : w.cell? ad = some (i64 x.1)) :
    Calls Try.prog 86 #[.slice (some ad) 1 c0, .int .i64 0] w fun e w' => ∃ g, e = .returned (.slice (some ⟨g, 0, none⟩) 0 0) ∧ Own w' w.heap.size 49 2 (some ⟨g, 0, none⟩) 0 0 [] ∧ Below w.heap.size w w' := by
  have k2 : IntKind.u64.wrap (0 : Int) = (0 : Int) := by rw [IntKind.wrap]; simp [IntKind.bits]
  have hmk : ∀ w, (Instr.makeSlice 44 (.int .i64 0) (.int .i64 0)).run Try.prog w = .ok (.slice (some ⟨w.heap.size, 0, none⟩) 0 0) (w.alloc (.cells #[] 49)) := fun w => by
    have := run_mkK (P := Try.prog) 44 49 _ (.int .i64 0) 16 2 (by omega) Try.underlying44 info_repExpr rfl .i64 .i64 0 0 (by omega) (by omega) (by omega) w
    simpa using this
  go_enter Try.func86, Try.ntmps86
  go_wp2_with fail
  refine (mul1_c 0 (by omega) _).mono ?_
  rintro e w' ⟨rfl, rfl⟩
  obtain ⟨w2, hcp, HG2, hB2⟩ := copy_runK (P := Try.prog) 44 44 3 49 2 Try.underlying44 (by kernel_rfl) w.heap.size 0 0 0 ad 1 c0 [] 49 (w.alloc (.cells #[] 49)) (heap_alloc_new w _) [] 0 rfl rfl
    (fun j u hj => by simp at hj) (by simp) (by intro u hu; cases hu) w.heap.size w (below_size.alloc (Nat.le_refl _) _) (Nat.le_refl _)
  have B2 := Lib.hid hB2
  have G2 := Lib.hid (show Own w2 w.heap.size 49 2 (some ⟨w.heap.size, 0, none⟩) 0 0 [] from own_row (show Blk w2 w.heap.size 49 #[] from HG2) (Nat.le_refl _) rfl rfl (by omega))
  clear HG2 hB2
  go_wp2_with fail
  clear hmk hcp
  go_loopw [8] (fun qv wr => qv = .int .i64 0 ∧ wr = w2) (fun qv _ => 0)
  case atStart => exact ⟨rfl, by first | rfl | trivial⟩
  case round =>
    obtain ⟨rfl, rfl⟩ := hrel
    go_wp2_with fail
    go_ret
    exact ⟨_, rfl, G2.out, B2.out⟩
theorem repeatExprM_c (ad : Addr) (c0 : Nat) (x : Int × Int) (m : Nat) (w : World) (hv : w.cell? ad = some (i64 x.1)) (hv' : w.cell? ⟨ad.block, ad.off + 1, none⟩ = some (i64 x.2)) (hm : m ≤ 11) :
    Calls Try.prog 86 #[.slice (some ad) 1 c0, .int .i64 m] w fun e w' => ∃ g, e = .returned (.slice (some ⟨g, 0, none⟩) m m) ∧ Own w' w.heap.size 49 2 (some ⟨g, 0, none⟩) m m ((List.replicate m x).flatMap enc2) ∧ Below w.heap.size w w' := by
  by_cases h0 : m = 0
  · subst h0
    refine (repeatExpr0_c ad c0 x w hv).mono ?_
    rintro e w' ⟨g, rfl, ho, hb⟩
    exact ⟨g, rfl, ho, hb⟩
  · refine (repeatExpr_c ad c0 x m w hv hv' ⟨by omega, hm⟩).mono ?_
    rintro e w' ⟨g, rfl, hw, hb⟩
    exact ⟨g, rfl, hw, hb⟩
end Go.Proofs.Ytecpbgmcednpoaa
