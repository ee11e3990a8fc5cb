/-
  A slice of the call's own whose elements hold slices of the call's own: how it grows. Nothing of the program.
-/
import Derived.Test.YtdendllginlidaaGreatDoorApp
import Derived.Test.YtdendllginlidaaGreatDoorSeg
namespace Go.Proofs.YtdendllginlidaaGreatDoor
open Go.RowKit

/-- the head row (grown by append) and the rows of its elements, all in blocks of the call's own, all apart -/
structure OwnS (w : World) (B : Nat) (e : TypeId) (size : Nat) (A : Option Addr) (n c : Nat) (vs : List Value) (ss : List Seg) : Prop where
  own : Own w B e size A n c vs
  wrs : WrS w B w.heap.size ss
  ne : ∀ s ∈ ss, ∀ ad a, A = some ad → s.A = some a → 0 < s.n → a.block ≠ ad.block

section
variable {w w' : World} {B : Nat} {e : TypeId} {size n c : Nat} {A : Option Addr} {vs : List Value} {ss : List Seg}
theorem Wr.move {lo hi hi' n : Nat} {A : Option Addr} {vs : List Value} (h : Wr w lo hi A n vs) (hk : ∀ ad, 0 < n → A = some ad → w'.heap[ad.block]? = w.heap[ad.block]?) (hs : w.heap.size ≤ w'.heap.size) (hh : hi ≤ hi') : Wr w' lo hi' A n vs :=
  ⟨h.1, fun hn => by
    obtain ⟨ad, e, hB, hh, hlt, hc⟩ := h.2 hn
    have hb := hk ad hn e
    exact ⟨ad, e, hB, by omega, Nat.lt_of_lt_of_le hlt hs, fun j u hu => ⟨(World.cell?_of_block (a := ad.add j) (by rw [block_add]; exact hb)).trans (hc j u hu).1, (World.frozen?_of_block (a := ad.add j) (by rw [block_add]; exact hb)).trans (hc j u hu).2⟩⟩⟩
theorem OwnS.nil (h : Own w B e size A n c vs) : OwnS w B e size A n c vs [] := ⟨h, WrS.nil, fun s hs => by cases hs⟩
theorem OwnS.move (h : OwnS w B e size A n c vs ss) (hk : ∀ b, B ≤ b → b < w.heap.size → w'.heap[b]? = w.heap[b]?) (hs : w.heap.size ≤ w'.heap.size) : OwnS w' B e size A n c vs ss :=
  ⟨h.own.move fun ad ha => hk _ (h.own.block ha).1 (h.own.block ha).2.1,
   ⟨fun s hs' => (h.wrs.each s hs').move (fun ad hn e => by obtain ⟨ad', e', h1, _, h3, _⟩ := (h.wrs.each s hs').2 hn; rw [e] at e'; injection e' with e'; subst e'; exact hk _ h1 h3) hs hs, h.wrs.apart⟩, h.ne⟩
theorem OwnS.keep (h : OwnS w B e size A n c vs ss) (hb : Below w.heap.size w w') : OwnS w' B e size A n c vs ss := h.move (fun b _ hlt => hb.block b hlt) hb.size
theorem OwnS.alloc (h : OwnS w B e size A n c vs ss) (o : Obj) : OwnS (w.alloc o) B e size A n c vs ss := h.keep (below_size.alloc (Nat.le_refl _) o)
theorem OwnS.drew (h : OwnS w B e size A n c vs ss) : OwnS w.drew B e size A n c vs ss := ⟨h.own, ⟨h.wrs.each, h.wrs.apart⟩, h.ne⟩
theorem OwnS.drewN (h : OwnS w B e size A n c vs ss) (k : Nat) : OwnS (w.drewN k) B e size A n c vs ss := h.keep (below_drewN below_size k)
/-- all rows together -/
theorem OwnS.wrS (h : OwnS w B e size A n c vs ss) : WrS w B w.heap.size (⟨A, n * size, vs⟩ :: ss) :=
  ⟨fun s hs => by
    rcases List.mem_cons.1 hs with rfl | hs
    · exact h.own.wrK
    · exact h.wrs.each s hs, List.pairwise_cons.2 ⟨fun s hs a b ha hb _ hn => (h.ne s hs a b ha hb hn).symm, h.wrs.apart⟩⟩
/-- an element more: its row s is new since the world w0 -/
theorem OwnS.push {w0 w1 : World} {g' cap : Nat} {vs' : List Value} {s : Seg} {n' : Nat} (h : OwnS w0 B e size A n c vs ss) (hB : B ≤ w0.heap.size) (hb : Below w0.heap.size w0 w1) (hs : Wr w1 w0.heap.size w1.heap.size s.A s.n s.vs)
    (hown : Own w' B e size (some ⟨g', 0, none⟩) n' cap vs') (hk : ∀ b, b < w1.heap.size → (∀ ad', A = some ad' → ad'.block ≠ b) → w'.heap[b]? = w1.heap[b]?) (hg : A = some ⟨g', 0, none⟩ ∨ g' = w1.heap.size) (hz : w1.heap.size ≤ w'.heap.size) :
    OwnS w' B e size (some ⟨g', 0, none⟩) n' cap vs' (ss ++ [s]) := by
  have h1 := h.keep hb
  have hz1 := hb.size
  have hold : ∀ t ∈ ss, ∀ a, t.A = some a → 0 < t.n → a.block < w0.heap.size := fun t ht a ha hn => by
    obtain ⟨a', e', _, _, h3, _⟩ := (h.wrs.each t ht).2 hn
    rw [ha] at e'; injection e' with e'; subst e'; exact h3
  have hnew : ∀ a, s.A = some a → 0 < s.n → w0.heap.size ≤ a.block ∧ a.block < w1.heap.size := fun a ha hn => by
    obtain ⟨a', e', h2, _, h3, _⟩ := hs.2 hn
    rw [ha] at e'; injection e' with e'; subst e'; exact ⟨h2, h3⟩
  refine ⟨hown, ⟨fun t ht => ?_, ?_⟩, fun t ht ad a had ha hn => ?_⟩
  · rcases List.mem_append.1 ht with ht | ht
    · exact (h1.wrs.each t ht).move (fun a hn ha => hk _ (Nat.lt_of_lt_of_le (hold t ht a ha hn) hz1) fun ad' hA => (h.ne t ht ad' a hA ha hn).symm) hz hz
    · rw [List.mem_singleton] at ht; subst ht
      exact (hs.wider hB (Nat.le_refl _)).move (fun a hn ha => hk _ (hnew a ha hn).2 fun ad' hA => by have := (h.own.block hA).2.1; have := (hnew a ha hn).1; omega) hz hz
  · refine List.pairwise_append.2 ⟨h.wrs.apart, List.pairwise_singleton _ _, fun t ht u hu a b ha hb' hn hm => ?_⟩
    rw [List.mem_singleton] at hu; subst hu
    have := hold t ht a ha hn; have := (hnew b hb' hm).1; omega
  · injection had with had; subst had
    rcases List.mem_append.1 ht with ht | ht
    · rcases hg with hg | hg
      · exact h.ne t ht _ a hg ha hn
      · have := hold t ht a ha hn; show a.block ≠ g'; omega
    · rw [List.mem_singleton] at ht; subst ht
      rcases hg with hg | hg
      · have := (h.own.block hg).2.1; have := (hnew a ha hn).1; show a.block ≠ g'; simp at *; omega
      · have := (hnew a ha hn).2; show a.block ≠ g'; omega
end
end Go.Proofs.YtdendllginlidaaGreatDoor
