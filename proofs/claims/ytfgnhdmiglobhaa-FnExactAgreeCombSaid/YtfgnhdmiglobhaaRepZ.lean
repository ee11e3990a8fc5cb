/-
  slices.Repeat of one pair, no time too.
-/
import Derived.Test.YtfgnhdmiglobhaaRepK
namespace Go.Proofs.Ytfgnhdmiglobhaa
open Go.RowKit

set_option maxHeartbeats 2000000 in
set_option maxRecDepth 100000 in
theorem repeatComb0_c (ad : Addr) (c0 : Nat) (x : Int × Int) (w : World) (_hv : w.cell? ad = some (i64 x.1)) :
    Calls Try.prog 94 #[.slice (some ad) 1 c0, .int .i64 0] w fun e w' => ∃ g, e = .returned (.slice (some ⟨g, 0, none⟩) 0 0) ∧ Below w.heap.size w w' := by
  have k2 : IntKind.u64.wrap (0 : Int) = (0 : Int) := by rw [IntKind.wrap]; simp [IntKind.bits]
  have hmk : ∀ w, (Instr.makeSlice 24 (.int .i64 0) (.int .i64 0)).run Try.prog w = .ok (.slice (some ⟨w.heap.size, 0, none⟩) 0 0) (w.alloc (.cells #[] 50)) := fun w => by
    have := run_mkK (P := Try.prog) 24 50 _ (.int .i64 0) 16 2 (by omega) Try.underlying24 info_repComb rfl .i64 .i64 0 0 (by omega) (by omega) (by omega) w
    simpa using this
  go_enter Try.func94, Try.ntmps94
  go_wp2_with fail
  refine (mul1_c 0 (by omega) _).mono ?_
  rintro e w' ⟨rfl, rfl⟩
  obtain ⟨w2, hcp, HG2, hB2⟩ := copy_runK (P := Try.prog) 24 24 3 50 2 Try.underlying24 (by kernel_rfl) w.heap.size 0 0 0 ad 1 c0 [] 50 (w.alloc (.cells #[] 50)) (heap_alloc_new w _) [] 0 rfl rfl
    (fun j u hj => by simp at hj) (by simp) (by intro u hu; cases hu) w.heap.size w (below_size.alloc (Nat.le_refl _) _) (Nat.le_refl _)
  have B2 := Lib.hid hB2
  clear HG2 hB2
  go_wp2_with fail
  clear hmk hcp
  go_loopw [8] (fun qv wr => qv = .int .i64 0 ∧ wr = w2) (fun qv _ => 0)
  case atStart => exact ⟨rfl, by first | rfl | trivial⟩
  case round =>
    obtain ⟨rfl, rfl⟩ := hrel
    go_wp2_with fail
    go_ret
    exact ⟨_, rfl, B2.out⟩
theorem repeatCombM_c (ad : Addr) (c0 : Nat) (x : Int × Int) (m : Nat) (w : World) (hv : w.cell? ad = some (i64 x.1)) (hv' : w.cell? ⟨ad.block, ad.off + 1, none⟩ = some (i64 x.2)) (hm : m ≤ 11) :
    Calls Try.prog 94 #[.slice (some ad) 1 c0, .int .i64 m] w fun e w' => ∃ g, e = .returned (.slice (some ⟨g, 0, none⟩) m m) ∧ Rd2 w' (some ⟨g, 0, none⟩) m (List.replicate m x) ∧ Below w.heap.size w w' := by
  by_cases h0 : m = 0
  · subst h0
    refine (repeatComb0_c ad c0 x w hv).mono ?_
    rintro e w' ⟨g, rfl, hb⟩
    exact ⟨g, rfl, Rd2.none0, hb⟩
  · refine (repeatComb_c ad c0 x m w hv hv' ⟨by omega, hm⟩).mono ?_
    rintro e w' ⟨g, rfl, hw, hb⟩
    exact ⟨g, rfl, hw.rd, hb⟩
end Go.Proofs.Ytfgnhdmiglobhaa
