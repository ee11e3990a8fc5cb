/-
  Reading, seventh part: the law's contracts for proofs.
-/
import Derived.Test.YtdendllginlidaaGreatDoorCSf
namespace Go.Proofs.YtdendllginlidaaGreatDoor
open Go.RowKit

theorem bs_listR (x : ByteArray) : ∃ l, x = bs l := ⟨x.data.toList, by apply ByteArray.ext; simp [bs]⟩
def rdpR (x : ByteArray) : PfD × Bool := prfV (srR x.data.toList)
set_option maxRecDepth 100000 in
theorem sReadProof_c (x : ByteArray) (RR : PfD × Bool) (hRR : rdpR x = RR) (w : World) (hn : x.size ≤ 1048576) : Calls Tryz.prog 14 #[.string x] w (PfOut RR w) := by
  obtain ⟨s, rfl⟩ := bs_listR x
  rw [rdpR, bs_dataS] at hRR
  rw [bs_size] at hn
  have HC := Lib.hid (l25Read_c s RR hRR (w.alloc (.cells #[i64 0, .slice none 0 0, .slice none 0 0] 42)) hn)
  clear hRR hn
  go_enter Tryz.func14, Tryz.ntmps14
  go_wp2_with fail
  refine HC.out.mono ?_
  rintro e w1 ⟨A, n, c, B, m, d, its, rfl, hS, hl, hb⟩
  have Z1 := (Blk.new w 42 #[i64 0, .slice none 0 0, .slice none 0 0]).keep hb
  have r0 := Z1.cell 0; have r1 := Z1.cell 1; have r2 := Z1.cell 2
  have f0 := Z1.frozen 0; have f1 := Z1.frozen 1; have f2 := Z1.frozen 2
  simp at r0 r1 r2
  have B1 := Lib.hid (show Below w.heap.size w w1 from up1 hb)
  have HS := Lib.hid hS; have HL := Lib.hid hl
  clear hS hl hb Z1
  go_wp2_with fail
  refine bodyPost_ret (v := .tuple #[.agg #[.int .i64 RR.1.1, .slice A n c, .slice B m d], .bool RR.2]) (by simp [results, Tryz.results14, go_sem, r0, r1, r2]) rfl ?_
  refine ⟨A, n, c, B, m, d, its, rfl, ?_, HL.out, ((B1.out.setCell (by exact Nat.le_refl _) _).setCell (by exact Nat.le_refl _) _).setCell (by exact Nat.le_refl _) _⟩
  have hlt : w.heap.size < (w.alloc (.cells #[i64 0, .slice none 0 0, .slice none 0 0] 42)).heap.size := by simp
  have h9 := (((HS.out.set_far (p := ⟨w.heap.size, 0, none⟩) (.inl hlt) (.int .i64 RR.1.1)).set_far (p := ⟨w.heap.size, 1, none⟩) (.inl hlt) (.slice A n c)).set_far (p := ⟨w.heap.size, 2, none⟩) (.inl hlt) (.slice B m d)).wider (lo' := w.heap.size) (Nat.le_of_lt hlt) (show w1.heap.size ≤ _ from Nat.le_refl _)
  simpa using h9
theorem iReadProof_c (x : ByteArray) (RR : PfD × Bool) (hRR : rdpR x = RR) (w : World) (hn : x.size ≤ 1048576) (ht : LibS w) : Calls Tryz.prog 15 #[.string x] w (PfOut RR w) := by
  obtain ⟨s, rfl⟩ := bs_listR x
  rw [rdpR, bs_dataS] at hRR
  rw [bs_size] at hn
  exact iReadProof_t s RR hRR w hn ht
end Go.Proofs.YtdendllginlidaaGreatDoor
