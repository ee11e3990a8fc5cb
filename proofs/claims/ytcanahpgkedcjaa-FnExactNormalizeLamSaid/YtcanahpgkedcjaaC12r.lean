/-
  Contracts of chapter 12: replacing the variables of a lambda term, of the program.
-/
import Derived.Test.YtcanahpgkedcjaaC12q
import Derived.Laws.EntriesVeiled
namespace Go.Proofs.Ytcanahpgkedcjaa
open Go.RowKit

/-- the worlds that the call of mapVariables makes -/
def mvW (w : World) (ad : Addr) (n c : Nat) (FV : Value) : World :=
  (((((w.alloc (.cells #[.slice (some ad) n c] 24)).alloc (.cells #[FV] 143)).alloc (.cells #[] 62)).alloc (.cells #[.slice (some ⟨w.heap.size + 1 + 1, 0, none⟩) 0 0] 24)).alloc (.cells #[.int .i64 0] 3)).alloc
    (.cells #[.func (.func 129) #[] #[.pointer (some ⟨w.heap.size, 0, none⟩), .pointer (some ⟨w.heap.size + 1 + 1 + 1 + 1, 0, none⟩), .pointer (some ⟨w.heap.size + 1 + 1 + 1, 0, none⟩), .pointer (some ⟨w.heap.size + 1, 0, none⟩), .pointer (some ⟨w.heap.size + 1 + 1 + 1 + 1 + 1, 0, none⟩)]] 167)
theorem blk_newAt (w : World) (t : TypeId) (cs : Array Value) (g : Nat) (h : w.heap.size = g) : Blk (w.alloc (.cells cs t)) g t cs := by rw [← h]; exact Blk.new w t cs
theorem mvW_below (w : World) (ad : Addr) (n c : Nat) (FV : Value) : Below w.heap.size w (mvW w ad n c FV) := by
  unfold mvW
  exact (((((below_size.alloc (Nat.le_refl _) _).alloc (by simp) _).alloc (by simp; omega) _).alloc (by simp; omega) _).alloc (by simp; omega) _).alloc (by simp; omega) _
theorem mvW_size (w : World) (ad : Addr) (n c : Nat) (FV : Value) : (mvW w ad n c FV).heap.size = w.heap.size + 6 := by unfold mvW; simp
theorem mvW_ok {w : World} {ad : Addr} {n c : Nat} {FV : Value} {t : List (Int × Int)} (h : Rd2 w (some ad) n t) (hab : ad.block < w.heap.size) : MvS (mvW w ad n c FV) w.heap.size ad n c t 0 FV [] := by
  refine ⟨?_, ?_, ⟨some ⟨w.heap.size + 1 + 1, 0, none⟩, 0, ?_, ?_⟩, ?_, ?_, h.below (mvW_below w ad n c FV), hab⟩
  · unfold mvW; exact (((((blk_newAt w _ _ _ rfl).alloc _).alloc _).alloc _).alloc _).alloc _
  · unfold mvW; exact ((((blk_newAt _ _ _ _ (by simp)).alloc _).alloc _).alloc _).alloc _
  · unfold mvW; exact ((blk_newAt _ _ _ _ (by simp)).alloc _).alloc _
  · unfold mvW
    have h1 := Own.litK (w := (w.alloc (.cells #[.slice (some ad) n c] 24)).alloc (.cells #[FV] 143)) (B := w.heap.size) (k := 2) (e := 62) (by simp; omega)
    rw [World.size_alloc, World.size_alloc] at h1
    exact ((h1.alloc _).alloc _).alloc _
  · unfold mvW; exact (blk_newAt _ _ _ _ (by simp)).alloc _
  · unfold mvW; exact blk_newAt _ _ _ _ (by simp)
set_option maxHeartbeats 4000000 in
set_option maxRecDepth 100000 in
theorem mapVarsS_c (V V2 : Value) (F : Int × Int → Nat → List (Int × Int)) (M : Nat) (ad : Addr) (n c : Nat) (t : List (Int × Int)) (w : World) (h : Rd2 w (some ad) n t) (hab : ad.block < w.heap.size) (hn : n ≤ 999) (hM : 1 ≤ M ∧ M ≤ 1000) (hok : ∀ x ∈ t, okL x = true) (hv : endP manyL t 1 = some t.length)
    (HC : ∀ (x : Int × Int) (d : Nat) (wz : World), x.1 = 0 → okL x = true → d ≤ 1000 → Below w.heap.size w wz → Calls Try.prog 130 #[.agg #[.int .i64 x.1, .int .i64 x.2], .int .i64 d, V, V2] wz fun e w' => ∃ A l c', e = .returned (.slice A l c') ∧ Rd2 w' A l (F x d) ∧ l ≤ M ∧ Below wz.heap.size wz w') :
    Calls Try.prog 102 #[.slice (some ad) n c, .func (.func 130) #[] #[V, V2]] w fun e w' => ∃ A cap, e = .returned (.slice A (mapL F t [0]).length cap) ∧ Wr w' w.heap.size w'.heap.size A ((mapL F t [0]).length * 2) ((mapL F t [0]).flatMap enc2) ∧ (mapL F t [0]).length ≤ n * M ∧ (mapL F t [0]).length ≤ cap ∧ Below w.heap.size w w' := by
  have hl := h.len
  have H := Lib.hid h; have HCC := Lib.hid HC; have HOK := Lib.hid hok; have HV := Lib.hid hv
  clear h HC hok hv
  go_enter Try.func102, Try.ntmps102
  go_wp2_with fail
  refine ((visitS_c V V2) F M w.heap.size w ad n c t (by omega) hM HOK.out HCC.out n n 0 0 [] (mvW w ad n c _) (Nat.le_refl _) (mvW_ok H.out hab) (by rw [List.drop_zero]; rw [hl] at HV; exact HV.out) (by omega) (by simp; have := Nat.mul_le_mul hn hM.2; omega) (mvW_below _ _ _ _ _) (by rw [mvW_size]; omega)).mono ?_
  rintro e w1 ⟨rfl, h1, b1, z1, l1⟩
  rw [List.drop_zero, List.take_of_length_le (by omega), List.nil_append] at h1
  rw [List.drop_zero, List.take_of_length_le (by omega)] at l1
  obtain ⟨C, cc, hC, hO⟩ := h1.oc
  have r1 := hC.cell 0
  simp at r1
  have O1 := Lib.hid hO; have B1 := Lib.hid b1; have L1 := Lib.hid l1
  clear h1 hC hO b1 l1
  go_wp2_with fail
  go_ret
  exact ⟨C, cc, rfl, O1.out.wrK, L1.out, O1.out.cap, B1.out⟩
set_option maxHeartbeats 4000000 in
set_option maxRecDepth 100000 in
theorem mapVarsR_c (V : Value) (F : Int × Int → Nat → List (Int × Int)) (M : Nat) (ad : Addr) (n c : Nat) (t : List (Int × Int)) (w : World) (h : Rd2 w (some ad) n t) (hab : ad.block < w.heap.size) (hn : n ≤ 999) (hM : 1 ≤ M ∧ M ≤ 1000) (hok : ∀ x ∈ t, okL x = true) (hv : endP manyL t 1 = some t.length)
    (HC : ∀ (x : Int × Int) (d : Nat) (wz : World), x.1 = 0 → okL x = true → d ≤ 1000 → Below w.heap.size w wz → Calls Try.prog 103 #[.agg #[.int .i64 x.1, .int .i64 x.2], .int .i64 d, V] wz fun e w' => ∃ A l c', e = .returned (.slice A l c') ∧ Rd2 w' A l (F x d) ∧ l ≤ M ∧ Below wz.heap.size wz w') :
    Calls Try.prog 102 #[.slice (some ad) n c, .func (.func 103) #[] #[V]] w fun e w' => ∃ A cap, e = .returned (.slice A (mapL F t [0]).length cap) ∧ Wr w' w.heap.size w'.heap.size A ((mapL F t [0]).length * 2) ((mapL F t [0]).flatMap enc2) ∧ (mapL F t [0]).length ≤ n * M ∧ (mapL F t [0]).length ≤ cap ∧ Below w.heap.size w w' := by
  have hl := h.len
  have H := Lib.hid h; have HCC := Lib.hid HC; have HOK := Lib.hid hok; have HV := Lib.hid hv
  clear h HC hok hv
  go_enter Try.func102, Try.ntmps102
  go_wp2_with fail
  refine ((visitR_c V) F M w.heap.size w ad n c t (by omega) hM HOK.out HCC.out n n 0 0 [] (mvW w ad n c _) (Nat.le_refl _) (mvW_ok H.out hab) (by rw [List.drop_zero]; rw [hl] at HV; exact HV.out) (by omega) (by simp; have := Nat.mul_le_mul hn hM.2; omega) (mvW_below _ _ _ _ _) (by rw [mvW_size]; omega)).mono ?_
  rintro e w1 ⟨rfl, h1, b1, z1, l1⟩
  rw [List.drop_zero, List.take_of_length_le (by omega), List.nil_append] at h1
  rw [List.drop_zero, List.take_of_length_le (by omega)] at l1
  obtain ⟨C, cc, hC, hO⟩ := h1.oc
  have r1 := hC.cell 0
  simp at r1
  have O1 := Lib.hid hO; have B1 := Lib.hid b1; have L1 := Lib.hid l1
  clear h1 hC hO b1 l1
  go_wp2_with fail
  go_ret
  exact ⟨C, cc, rfl, O1.out.wrK, L1.out, O1.out.cap, B1.out⟩
end Go.Proofs.Ytcanahpgkedcjaa
