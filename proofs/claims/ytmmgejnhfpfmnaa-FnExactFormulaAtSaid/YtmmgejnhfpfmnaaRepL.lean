/-
  slices.Repeat of a list of numbers: so many times the list. Copies and reversals that tell their capacity; a list without zeros at its end.
-/
import Derived.Test.YtmmgejnhfpfmnaaC05r
import Derived.Test.YtmmgejnhfpfmnaaAppA
import Derived.Test.YtmmgejnhfpfmnaaC02b
import Derived.Test.YtmmgejnhfpfmnaaC27r
import Derived.Test.YtmmgejnhfpfmnaaBits
import Derived.Laws.CopyOwn
namespace Go.Proofs.Ytmmgejnhfpfmnaa
open Go.RowKit

/-! ### Cells that repeat -/
def rowR (N q : Nat) (f : Nat → Int) : List Value := (List.range N).map fun j => if j < q then i64 (f j) else i64 0
theorem rowR_len {N q : Nat} {f : Nat → Int} : (rowR N q f).length = N := by simp [rowR]
theorem rowR_at {N q j : Nat} {f : Nat → Int} (h : j < N) : (rowR N q f)[j]? = some (if j < q then i64 (f j) else i64 0) := by simp [rowR, h]
theorem rowR_splice {N q d : Nat} {f : Nat → Int} (h : q + d ≤ N) (hf : ∀ j, j < d → f (q + j) = f j) : splice (rowR N q f) q ((List.range d).map fun j => i64 (f j)) = rowR N (q + d) f := by
  unfold splice
  apply List.ext_getElem?
  intro j
  by_cases h1 : j < q
  · rw [List.getElem?_append_left (by rw [List.length_take, rowR_len]; omega), List.getElem?_take_of_lt h1, rowR_at (by omega), rowR_at (by omega), if_pos h1, if_pos (by omega)]
  · rw [List.getElem?_append_right (by rw [List.length_take, rowR_len]; omega), List.length_take, rowR_len, show min q N = q by omega]
    by_cases h2 : j < q + d
    · rw [List.getElem?_append_left (by simp; omega), rowR_at (by omega), if_pos h2, List.getElem?_map, List.getElem?_range (by omega)]
      have := hf (j - q) (by omega)
      rw [show q + (j - q) = j by omega] at this
      rw [this]; rfl
    · rw [List.getElem?_append_right (by simp; omega)]
      simp only [List.length_map, List.length_range, List.getElem?_drop]
      rw [show q + d + (j - q - d) = j by omega]
      by_cases h3 : j < N
      · rw [rowR_at h3, rowR_at h3, if_neg h1, if_neg h2]
      · rw [List.getElem?_eq_none (by rw [rowR_len]; omega), List.getElem?_eq_none (by rw [rowR_len]; omega)]
theorem repN_at (xs : List Int) : ∀ (m j : Nat), j < m * xs.length → (repN m xs)[j]? = xs[j % xs.length]?
  | 0, j, h => by simp at h
  | m + 1, j, h => by
    rw [Nat.succ_mul] at h
    have hl := repN_len xs m
    rw [repN]
    by_cases h1 : j < m * xs.length
    · rw [List.getElem?_append_left (by rw [hl]; exact h1)]; exact repN_at xs m j h1
    · rw [List.getElem?_append_right (by rw [hl]; omega), hl]
      congr 1
      have e : j = (j - m * xs.length) + xs.length * m := by have := Nat.mul_comm m xs.length; omega
      conv => rhs; rw [e]
      rw [Nat.add_mul_mod_self_left, Nat.mod_eq_of_lt (by omega)]
theorem rowR_full {xs : List Int} {m N : Nat} (hN : m * xs.length = N) : rowR N N (fun j => xs.getD (j % xs.length) 0) = (repN m xs).map i64 := by
  apply List.ext_getElem?
  intro j
  by_cases h : j < N
  · have hp : 0 < xs.length := by
      rcases Nat.eq_zero_or_pos xs.length with e | e
      · rw [e] at hN; omega
      · exact e
    rw [rowR_at h, if_pos h, List.getElem?_map, repN_at xs m j (by omega), List.getD_eq_getElem?_getD, List.getElem?_eq_getElem (Nat.mod_lt _ hp)]
    rfl
  · rw [List.getElem?_eq_none (by rw [rowR_len]; omega), List.getElem?_eq_none (by rw [List.length_map, repN_len, hN]; omega)]
theorem copy_runL {P : Program} (dT sT ty elem : TypeId) (hu : P.underlying dT = some (.slice elem)) (hsz : (P.info? elem).map (·.size) = some 1) (g off dLen dCap : Nat) (ad : Addr) (sLen sCap : Nat) (cur : List Value) (t : TypeId) (w : World) (hg : w.heap[g]? = some (.cells cur.toArray t (0, 0)))
    (cs : List Value) (hn : cs.length = Nat.min sLen dLen) (hsrc : ∀ j v, cs[j]? = some v → w.cell? (ad.add j) = some v) (hfit : off + cs.length ≤ cur.length) (h1 : ∀ v ∈ cs, v.oneCell' = true) (B : Nat) (w0 : World) (hb : Below B w0 w) (hBg : B ≤ g) :
    ∃ w', (Builtin.copy_ #[dT, sT] ty #[.slice (some ⟨g, off, none⟩) dLen dCap, .slice (some ad) sLen sCap]).run P w = .ok (.int .i64 cs.length) w' ∧ w'.heap[g]? = some (.cells (splice cur off cs).toArray t (0, 0)) ∧ Below B w0 w' :=
  ⟨_, run_copy_row (P := P) w dT sT ty elem g off dLen dCap ad sLen sCap cur.toArray t cs hu hsz hg hn hsrc (by simpa using hfit) h1, by simpa [splice] using setRow_heap w g _ _ t _ hg, below_setRow hb hBg _⟩
set_option maxHeartbeats 4000000 in
set_option maxRecDepth 100000 in
theorem repeatL_c (ad : Addr) (n c0 : Nat) (xs : List Int) (m : Nat) (w : World) (h : RdI w (some ad) n xs) (hn : 1 ≤ n ∧ n ≤ 1000) (hm : m ≤ 100000) :
    Calls Try.prog 110 #[.slice (some ad) n c0, .int .i64 m] w fun e w' => ∃ g N, e = .returned (.slice (some ⟨g, 0, none⟩) N N) ∧ N = m * n ∧ Wr w' w.heap.size w'.heap.size (some ⟨g, 0, none⟩) N ((repN m xs).map i64) ∧ Below w.heap.size w w' := by
  have hl := h.len
  obtain ⟨_, ea, hab, hcs⟩ := h.2 (by omega)
  injection ea with ea; subst ea
  obtain ⟨N, hN⟩ : ∃ N, m * n = N := ⟨_, rfl⟩
  have hNb : N ≤ 100000000 := by rw [← hN]; exact Nat.le_trans (Nat.mul_le_mul hm hn.2) (by omega)
  have hmn : m = 0 ∧ N = 0 ∨ n ≤ N := by
    rcases Nat.eq_zero_or_pos m with e | e
    · left; rw [e] at hN; omega
    · right; rw [← hN]; exact Nat.le_mul_of_pos_left n e
  obtain ⟨f, hf⟩ : ∃ f : Nat → Int, (fun j => xs.getD (j % xs.length) 0) = f := ⟨_, rfl⟩
  have HF := Lib.hid (show rowR N N f = (repN m xs).map i64 by rw [← hf]; exact rowR_full (by rw [hl]; exact hN))
  have HM := Lib.hid (show ∀ j, f (n + j) = f j by intro j; rw [← hf]; show xs.getD ((n + j) % xs.length) 0 = _; rw [hl, Nat.add_mod_left])
  have HMk := Lib.hid (show ∀ k j, f (k * n + j) = f j by
    intro k j; rw [← hf]; show xs.getD ((k * n + j) % xs.length) 0 = _; rw [hl, Nat.mul_comm, Nat.mul_add_mod])
  have HV := Lib.hid (show ∀ j u, ((List.range (min n N)).map fun j => i64 (f j))[j]? = some u → w.cell? (ad.add j) = some u by
    intro j u hj
    have hjl : j < min n N := by have := (List.getElem?_eq_some_iff.1 hj).1; simpa using this
    rw [List.getElem?_map, List.getElem?_range hjl] at hj
    injection hj with hj; subst hj
    refine hcs j _ ?_
    rw [List.getElem?_map, ← hf]
    simp only [hl]
    rw [Nat.mod_eq_of_lt (by omega), List.getD_eq_getElem?_getD, List.getElem?_eq_getElem (by omega)]; rfl)
  have HN := Lib.hid hN
  have k1 : decide ((m : Int) < 0) = false := decide_eq_false (by omega)
  have k2 : IntKind.u64.wrap (m : Int) = (m : Int) := by rw [IntKind.wrap]; simp [IntKind.bits]; omega
  have k2' : IntKind.u64.wrap (n : Int) = (n : Int) := by rw [IntKind.wrap]; simp [IntKind.bits]; omega
  have hmk : ∀ w, (Instr.makeSlice 25 (.int .i64 N) (.int .i64 N)).run Try.prog w = .ok (.slice (some ⟨w.heap.size, 0, none⟩) N N) (w.alloc (.cells (Array.replicate N (.int .i64 0)) 2)) := fun w => run_mk (P := Try.prog) 25 2 (.int .i64 0) 8 Try.underlying25 info_i64 rfl .i64 .i64 N N (by omega) (by omega) (by omega) w
  have HMU := Lib.hid (show Calls Try.prog 151 #[.int .u64 n, .int .u64 m] w fun e w' => e = .returned (.tuple #[.int .u64 0, .int .u64 N]) ∧ w = w' from
    (bitsMul_c n m w (by omega) (by omega)).mono fun e w' ⟨he, hw⟩ => ⟨by rw [he, Nat.mul_comm, hN], hw⟩)
  clear hf hcs hl h hN
  go_enter Try.func110, Try.ntmps110
  clear k1
  go_wp2_with fail
  refine HMU.out.mono ?_
  rintro e w' ⟨rfl, rfl⟩
  have k3 : IntKind.i64.wrap (N : Int) = (N : Int) := IntWalk.i64_in _ (by omega)
  have k4 : decide ((9223372036854775807 : Int) < (N : Int)) = false := decide_eq_false (by omega)
  have HB0 := Lib.hid (show (w.alloc (.cells (Array.replicate N (.int .i64 0)) 2)).heap[w.heap.size]? = some (.cells (rowR N 0 f).toArray 2 (0, 0)) by
    rw [heap_alloc_new]
    congr 2
    apply Array.ext'
    apply List.ext_getElem?
    intro j
    simp [rowR]
    by_cases hj : j < N <;> simp [hj])
  have H1 := Lib.hid (show ∀ q, (rowR N q f).length = N from fun q => rowR_len)
  obtain ⟨w2, hcp, HG2, hB2⟩ := copy_runL (P := Try.prog) 25 25 3 2 Try.underlying25 (by kernel_rfl) w.heap.size 0 N N ad n c0 (rowR N 0 f) 2 (w.alloc (.cells (Array.replicate N (.int .i64 0)) 2)) HB0.out ((List.range (min n N)).map fun j => i64 (f j)) (by simp)
    (fun j u hj => keepa _ (HV.out j u hj)) (by rw [H1.out]; simp <;> omega) (by intro u hu; obtain ⟨y, _, rfl⟩ := List.mem_map.1 hu; rfl) w.heap.size w (below_size.alloc (Nat.le_refl _) _) (Nat.le_refl _)
  have G2 := Lib.hid (show w2.heap[w.heap.size]? = some (.cells (rowR N (min n N) f).toArray 2 (0, 0)) by
    rw [HG2]; congr 2
    have := rowR_splice (N := N) (q := 0) (d := min n N) (f := f) (by omega) (fun j _ => by rw [Nat.zero_add])
    rw [Nat.zero_add] at this
    exact congrArg List.toArray this)
  have B2 := Lib.hid hB2
  rw [List.length_map, List.length_range] at hcp
  clear HG2 hB2
  clear k2 k2' k3 k4 HB0 HMU
  go_wp2_with fail
  clear hmk hcp
  go_loopw [8] (fun qv wr => ∃ q : Nat, min n N ≤ q ∧ q ≤ N ∧ qv = .int .i64 q ∧ Hid (q = N ∨ ∃ k, q = k * n) ∧ Hid (wr.heap[w.heap.size]? = some (.cells (rowR N q f).toArray 2 (0, 0))) ∧ Below w.heap.size w wr) (fun qv _ => N - (intOf qv).toNat)
  case atStart => exact ⟨min n N, by omega, by omega, rfl, by
    rcases hmn with ⟨_, e⟩ | e
    · left; omega
    · right; exact ⟨1, by omega⟩, G2.out, B2.out⟩
  case round =>
    obtain ⟨q, hq1, hq, rfl, hdv, hG, hb⟩ := hrel
    have HB := Lib.hid hb
    have hwz := hb.size
    have hlt0 : w.heap.size < wr.heap.size := Blk.lt (show Blk wr w.heap.size 2 _ from hG.out)
    clear hb
    by_cases hlt : q < N
    · obtain ⟨d, hd⟩ : ∃ d, Nat.min q (N - q) = d := ⟨_, rfl⟩
      have hdq : 1 ≤ d ∧ q + d ≤ N ∧ d ≤ q ∧ (q + d = N ∨ d = q) := by
        have : Nat.min q (N - q) = min q (N - q) := rfl
        omega
      have hBl : Blk wr w.heap.size 2 (rowR N q f).toArray := hG.out
      have HDV := Lib.hid (show ∀ j, f (q + j) = f j by
        intro j
        rcases hdv.out with e | ⟨k, e⟩
        · omega
        · rw [e]; exact HMk.out k j)
      have HNX := Lib.hid (show q + d = N ∨ ∃ k, q + d = k * n by
        rcases hdq.2.2.2 with e | e
        · exact .inl e
        · rcases hdv.out with e' | ⟨k, e'⟩
          · omega
          · exact .inr ⟨k + k, by rw [Nat.add_mul]; omega⟩)
      obtain ⟨w3, hcp, HG3, hB3⟩ := copy_runL (P := Try.prog) 25 25 3 2 Try.underlying25 (by kernel_rfl) w.heap.size q (N - q) (N - q) ⟨w.heap.size, 0, none⟩ q N (rowR N q f) 2 wr.drew hG.out ((List.range d).map fun j => i64 (f j)) (by simp; rw [← hd])
        (fun j u hj => by
          have hjl : j < d := by have := (List.getElem?_eq_some_iff.1 hj).1; simpa using this
          rw [List.getElem?_map, List.getElem?_range hjl] at hj
          injection hj with hj; subst hj
          rw [head_add]
          show wr.cell? _ = _
          rw [hBl.cell j, List.getElem?_toArray, rowR_at (by omega), if_pos (by omega)]) (by rw [H1.out]; simp <;> omega) (by intro u hu; obtain ⟨y, _, rfl⟩ := List.mem_map.1 hu; rfl) w.heap.size w (below_drew HB.out) (Nat.le_refl _)
      have G3 := Lib.hid (show w3.heap[w.heap.size]? = some (.cells (rowR N (q + d) f).toArray 2 (0, 0)) by rw [HG3]; congr 2; exact congrArg List.toArray (rowR_splice (by omega) (fun j _ => HDV.out j)))
      have B3 := Lib.hid hB3
      rw [List.length_map, List.length_range] at hcp
      obtain ⟨hd1, hd2, hd3, _⟩ := hdq
      clear HG3 hB3 hBl hd
      go_wp2_with fail
      refine Mix.wp_region_mix [0, 0, 0, 0, 0, 0, 0, 2, 0, 0] (fun w' => ∃ x : Ext wr, w' = x.w) (by kernel_rfl) (by kernel_rfl) (InExt.drew _) ?_
      repeat (first | (refine Mix.wpMix_read (by rfl) ?_; go_big_quiet_step (fail); refine wpQuiet_nil ?_) | (refine Mix.wpMix_pure (by rfl) ?_; go_big_quiet_step (fail); refine wpQuiet_nil ?_))
      refine Mix.wpMix_tail (by rfl) (fun K hK => ?_)
      go_wp2_with fail
      refine hK _ _ ?_
      clear hK K
      clear hcp
      repeat (first | (refine Mix.wpMix_read (by rfl) ?_; go_big_quiet_step (fail); refine wpQuiet_nil ?_) | (refine Mix.wpMix_pure (by rfl) ?_; go_big_quiet_step (fail); refine wpQuiet_nil ?_))
      (refine Mix.wpMix_nil ?_; try simp only [Exit.then])
      go_wp2_with fail
      go_roundw
      case rel => exact ⟨q + d, by omega, hd2, by go_num, HNX.out, G3.out, B3.out⟩
      case measure => simp [intOf]; omega
    · have HQ := Lib.hid (show q = N by omega)
      go_wp2_with fail
      go_ret
      refine ⟨w.heap.size, N, rfl, HN.out.symm, ?_, HB.out⟩
      have hBl : Blk wr w.heap.size 2 (rowR N q f).toArray := hG.out
      rw [HQ.out] at hBl
      exact hBl.wr (Nat.le_refl _) hlt0 (by rw [← HF.out]; exact List.take_of_length_le (by simp [rowR_len])) (by simp [rowR_len])
end Go.Proofs.Ytmmgejnhfpfmnaa
