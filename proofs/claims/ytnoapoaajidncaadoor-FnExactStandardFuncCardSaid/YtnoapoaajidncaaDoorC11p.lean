/-
  Reading functions: both readers, as the law calls them.
-/
import Derived.Test.YtnoapoaajidncaaDoorC11o
namespace Go.Proofs.YtnoapoaajidncaaDoor
open Go.RowKit
open FTr

theorem bs_listR (x : ByteArray) : ∃ l, x = bs l := ⟨x.data.toList, by apply ByteArray.ext; simp [bs]⟩
noncomputable def rdfR (x : ByteArray) : List Nd3 × Bool := rfS x.data.toList
theorem sReadFunc_c (x : ByteArray) (w : World) (hn : x.size ≤ 1048576) : Calls Tryd.prog 5 #[.string x] w (FnOutB (rdfR x) w) := by
  obtain ⟨s, rfl⟩ := bs_listR x
  rw [rdfR, bs_list]
  exact sReadFunc_t s w (by rw [bs_size] at hn; exact hn)
theorem iReadFunc_c (x : ByteArray) (w : World) (hn : x.size ≤ 1048576) (ht : Tab w) : Calls Tryd.prog 6 #[.string x] w (FnOutB (rdfR x) w) := by
  obtain ⟨s, rfl⟩ := bs_listR x
  rw [rdfR, bs_list]
  exact iReadFunc_t s w (by rw [bs_size] at hn; exact hn) ht
end Go.Proofs.YtnoapoaajidncaaDoor
