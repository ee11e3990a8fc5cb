/-
  All blocks stay but one. Nothing of the program.
-/
import Derived.Test.YtdendllginlidaaDoorBase
namespace Go.Proofs.YtdendllginlidaaDoor
open Go.RowKit

/-- blocks that stay but one -/
structure KpB (g : Nat) (w2 wr : World) (B : Option Addr) : Prop where
  cells : ∀ b, b < w2.heap.size → b ≠ g → wr.heap[b]? = w2.heap[b]?
  size : w2.heap.size ≤ wr.heap.size
  own : ∀ ad, B = some ad → ad.block = g ∨ w2.heap.size ≤ ad.block
theorem KpB.cell {g : Nat} {w2 wr : World} {B : Option Addr} {p : Addr} {v : Value} (h : KpB g w2 wr B) (hp : p.block ≠ g) (hc : w2.cell? p = some v) : wr.cell? p = some v := by
  have hb := World.block_lt_of_cell? w2 _ hc
  rw [← hc]
  simp only [World.cell?, h.cells _ hb hp]
theorem KpB.step {g : Nat} {w2 wr w3 : World} {B B' : Option Addr} (h : KpB g w2 wr B) (hk : ∀ b, b < wr.heap.size → (∀ ad', B = some ad' → ad'.block ≠ b) → w3.heap[b]? = wr.heap[b]?) (hz : wr.heap.size ≤ w3.heap.size) (hB : B' = B ∨ ∀ ad, B' = some ad → wr.heap.size ≤ ad.block) : KpB g w2 w3 B' := by
  refine ⟨fun b hb hg => ?_, Nat.le_trans h.size hz, fun ad e => ?_⟩
  · rw [hk b (by have := h.size; omega) (fun ad e => by rcases h.own ad e with h1 | h1 <;> omega)]
    exact h.cells b hb hg
  · rcases hB with rfl | h1
    · exact h.own ad e
    · exact .inr (Nat.le_trans h.size (h1 ad e))
theorem KpB.rd {g : Nat} {w2 wr : World} {B : Option Addr} {A : Option Addr} {n : Nat} {vs : List Value} (h : KpB g w2 wr B) (hr : Rd w2 A n vs) (hg : ∀ a, A = some a → a.block ≠ g) : Rd wr A n vs :=
  ⟨hr.1, fun hn => by
    obtain ⟨ad, e, hlt, hc⟩ := hr.2 hn
    exact ⟨ad, e, Nat.lt_of_lt_of_le hlt h.size, fun j u hu => (World.cell?_of_block (a := ad.add j) (by rw [block_add]; exact h.cells ad.block hlt (hg ad e))).trans (hc j u hu)⟩⟩
theorem KpB.start {g : Nat} {w2 : World} {B : Option Addr} (hB : ∀ ad, B = some ad → ad.block = g) : KpB g w2 w2 B := ⟨fun _ _ _ => rfl, Nat.le_refl _, fun ad e => .inl (hB ad e)⟩
/-- behind a call, a literal and an append -/
theorem KpB.push {g : Nat} {w2 wr w4 w3 : World} {B B' : Option Addr} {o : Obj} (h : KpB g w2 wr B) (h4 : Below wr.heap.size wr w4) (hk : ∀ b, b < (w4.alloc o).heap.size → (∀ ad', B = some ad' → ad'.block ≠ b) → w3.heap[b]? = (w4.alloc o).heap[b]?) (hz : (w4.alloc o).heap.size ≤ w3.heap.size) (hB : B' = B ∨ ∀ ad, B' = some ad → (w4.alloc o).heap.size ≤ ad.block) : KpB g w2 w3 B' :=
  KpB.step (B := B) (KpB.step (B' := B) (KpB.step (B' := B) h (fun b hb _ => h4.block b hb) h4.size (.inl rfl)) (fun b hb _ => (below_size.alloc (Nat.le_refl _) o).block b hb) (by simp) (.inl rfl)) hk hz hB
end Go.Proofs.YtdendllginlidaaDoor
