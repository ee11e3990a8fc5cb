/-
  Things in memory as lists of rows of cells: how they read, that they may be written, that nothing else is touched. Nothing of the program.
-/
import Derived.Test.YtdendllginlidaaGreatDoorBase
namespace Go.Proofs.YtdendllginlidaaGreatDoor
open Go.RowKit

/-- a row of cells -/
structure Seg where
  A : Option Addr
  n : Nat
  vs : List Value

/-- all rows read so -/
def RdS (w : World) (ss : List Seg) : Prop := ∀ s ∈ ss, Rd w s.A s.n s.vs
/-- .. and lie below block B -/
def RdSU (w : World) (B : Nat) (ss : List Seg) : Prop := ∀ s ∈ ss, RdU w B s.A s.n s.vs
/-- two rows in different blocks -/
def apart (s t : Seg) : Prop := ∀ a b, s.A = some a → t.A = some b → 0 < s.n → 0 < t.n → a.block ≠ b.block
/-- all rows may be written, each in a block of its own, in blocks from lo to hi -/
structure WrS (w : World) (lo hi : Nat) (ss : List Seg) : Prop where
  each : ∀ s ∈ ss, Wr w lo hi s.A s.n s.vs
  apart : ss.Pairwise apart

section
variable {w w' : World} {B lo hi l r : Nat} {ss tt : List Seg} {s : Seg}
theorem RdS.below (h : RdS w ss) (hb : Below w.heap.size w w') : RdS w' ss := fun s hs => (h s hs).below hb
theorem RdS.alloc (h : RdS w ss) (o : Obj) : RdS (w.alloc o) ss := fun s hs => (h s hs).alloc o
theorem RdS.drew (h : RdS w ss) : RdS w.drew ss := h
theorem RdS.drewN (h : RdS w ss) (k : Nat) : RdS (w.drewN k) ss := h
theorem RdS.one {A : Option Addr} {n : Nat} {vs : List Value} (h : Rd w A n vs) : RdS w [⟨A, n, vs⟩] := fun s hs => by rw [List.mem_singleton] at hs; subst hs; exact h
theorem RdS.cons (h : Rd w s.A s.n s.vs) (h' : RdS w ss) : RdS w (s :: ss) := fun t ht => by
  rcases List.mem_cons.1 ht with rfl | ht
  · exact h
  · exact h' t ht
theorem RdS.append (h : RdS w ss) (h' : RdS w tt) : RdS w (ss ++ tt) := fun t ht => by
  rcases List.mem_append.1 ht with ht | ht
  · exact h t ht
  · exact h' t ht
theorem RdS.head (h : RdS w (s :: ss)) : Rd w s.A s.n s.vs := h s (by simp)
theorem RdS.tail (h : RdS w (s :: ss)) : RdS w ss := fun t ht => h t (by simp [ht])
theorem RdS.left (h : RdS w (ss ++ tt)) : RdS w ss := fun t ht => h t (by simp [ht])
theorem RdS.right (h : RdS w (ss ++ tt)) : RdS w tt := fun t ht => h t (by simp [ht])
theorem RdS.nil : RdS w [] := fun _ hs => by cases hs
theorem RdSU.mk' (h : RdS w ss) : RdSU w w.heap.size ss := fun s hs => RdU.mk' (h s hs)
theorem RdSU.below (h : RdSU w B ss) (hb : Below w.heap.size w w') : RdSU w' B ss := fun s hs => (h s hs).below hb
theorem RdSU.keep (h : RdSU w B ss) (hk : KeepR lo hi w w') (hx : B ≤ lo) : RdSU w' B ss := fun s hs => (h s hs).keep hk hx
theorem RdSU.rd (h : RdSU w B ss) : RdS w ss := fun s hs => (h s hs).1
theorem WrS.rd (h : WrS w lo hi ss) : RdS w ss := fun s hs => (h.each s hs).rd
theorem WrS.below (h : WrS w lo hi ss) (hb : Below w.heap.size w w') : WrS w' lo hi ss := ⟨fun s hs => (h.each s hs).below hb, h.apart⟩
theorem WrS.wider {lo' hi' : Nat} (h : WrS w lo hi ss) (h1 : lo' ≤ lo) (h2 : hi ≤ hi') : WrS w lo' hi' ss := ⟨fun s hs => (h.each s hs).wider h1 h2, h.apart⟩
theorem WrS.alloc (h : WrS w lo hi ss) (o : Obj) : WrS (w.alloc o) lo hi ss := ⟨fun s hs => (h.each s hs).alloc o, h.apart⟩
theorem WrS.keep (h : WrS w lo hi ss) (hk : KeepR l r w w') (hx : hi ≤ l ∨ r ≤ lo) : WrS w' lo hi ss := ⟨fun s hs => (h.each s hs).keep hk hx, h.apart⟩
theorem WrS.set_far (h : WrS w lo hi ss) {p : Addr} (hp : p.block < lo ∨ hi ≤ p.block) (u : Value) : WrS (w.setCell p u) lo hi ss := ⟨fun s hs => (h.each s hs).set_far hp u, h.apart⟩
theorem WrS.nil : WrS w lo hi [] := ⟨(fun _ hs => by cases hs), List.Pairwise.nil⟩
theorem WrS.one {A : Option Addr} {n : Nat} {vs : List Value} (h : Wr w lo hi A n vs) : WrS w lo hi [⟨A, n, vs⟩] :=
  ⟨fun s hs => by rw [List.mem_singleton] at hs; subst hs; exact h, List.pairwise_singleton _ _⟩
theorem WrS.append {mid : Nat} (h : WrS w lo mid ss) (h' : WrS w mid hi tt) (h1 : lo ≤ mid) (h2 : mid ≤ hi) : WrS w lo hi (ss ++ tt) := by
  refine ⟨fun s hs => ?_, List.pairwise_append.2 ⟨h.apart, h'.apart, fun s hs t ht a b ha hb hn hm => ?_⟩⟩
  · rcases List.mem_append.1 hs with hs | hs
    · exact (h.each s hs).wider (Nat.le_refl _) h2
    · exact (h'.each s hs).wider h1 (Nat.le_refl _)
  · obtain ⟨a', e, _, ha2, _⟩ := (h.each s hs).2 hn
    obtain ⟨b', e', hb1, _⟩ := (h'.each t ht).2 hm
    rw [ha] at e; rw [hb] at e'
    injection e with e; injection e' with e'
    subst e; subst e'
    omega
theorem WrS.cons1 {mid : Nat} {A : Option Addr} {n : Nat} {vs : List Value} (h : Wr w lo mid A n vs) (h' : WrS w mid hi tt) (h1 : lo ≤ mid) (h2 : mid ≤ hi) : WrS w lo hi (⟨A, n, vs⟩ :: tt) := (WrS.one h).append h' h1 h2
theorem WrS.head (h : WrS w lo hi (s :: ss)) : Wr w lo hi s.A s.n s.vs := h.each s (by simp)
theorem WrS.tail (h : WrS w lo hi (s :: ss)) : WrS w lo hi ss := ⟨fun t ht => h.each t (by simp [ht]), (List.pairwise_cons.1 h.apart).2⟩

theorem KeepR.none_ {a : Nat} (h : KeepR a a w w') : KeepR lo hi w w' := ⟨h.os, h.tape, h.output, h.size, fun k hk _ => h.block k hk (by omega)⟩

/-- one row's own range of blocks: whatever changes only there leaves the other rows as they were -/
theorem WrS.range {pre post : List Seg} (h : WrS w lo hi (pre ++ s :: post)) : ∃ l r, Wr w l r s.A s.n s.vs ∧ (∀ w', KeepR l r w w' → KeepR lo hi w w') ∧
    (∀ w' vs', KeepR l r w w' → Wr w' l r s.A s.n vs' → WrS w' lo hi (pre ++ ⟨s.A, s.n, vs'⟩ :: post)) := by
  have hs := h.each s (by simp)
  by_cases hn : 0 < s.n
  · obtain ⟨ad, e, h1, h2, h3, hc⟩ := hs.2 hn
    refine ⟨ad.block, ad.block + 1, ⟨hs.1, fun _ => ⟨ad, e, Nat.le_refl _, by omega, h3, hc⟩⟩, fun w' hk => hk.wider h1 (by omega), fun w' vs' hk hw => ?_⟩
    have hother : ∀ t ∈ pre ++ post, Wr w' lo hi t.A t.n t.vs := by
      intro t ht
      have ht' : t ∈ pre ++ s :: post := by
        rcases List.mem_append.1 ht with ht | ht
        · simp [ht]
        · simp [ht]
      have hw := h.each t ht'
      refine ⟨hw.1, fun hm => ?_⟩
      obtain ⟨b, e', g1, g2, g3, gc⟩ := hw.2 hm
      have hne : ad.block ≠ b.block := by
        have hp := List.pairwise_append.1 h.apart
        rcases List.mem_append.1 ht with ht | ht
        · exact fun e2 => hp.2.2 t ht s (by simp) b ad e' e hm hn e2.symm
        · exact (List.pairwise_cons.1 hp.2.1).1 t ht ad b e e' hn hm
      have hb := hk.block b.block g3 (by omega)
      exact ⟨b, e', g1, g2, Nat.lt_of_lt_of_le g3 hk.size, fun j u hu => ⟨(World.cell?_of_block (a := b.add j) (by rw [block_add]; exact hb)).trans (gc j u hu).1, (World.frozen?_of_block (a := b.add j) (by rw [block_add]; exact hb)).trans (gc j u hu).2⟩⟩
    refine ⟨fun t ht => ?_, ?_⟩
    · rcases List.mem_append.1 ht with ht | ht
      · exact hother t (by simp [ht])
      · rcases List.mem_cons.1 ht with rfl | ht
        · exact hw.wider h1 (by omega)
        · exact hother t (by simp [ht])
    · have hp := List.pairwise_append.1 h.apart
      have hq := List.pairwise_cons.1 hp.2.1
      refine List.pairwise_append.2 ⟨hp.1, List.pairwise_cons.2 ⟨fun t ht => hq.1 t ht, hq.2⟩, fun t ht u hu => ?_⟩
      rcases List.mem_cons.1 hu with rfl | hu
      · exact hp.2.2 t ht s (by simp)
      · exact hp.2.2 t ht u (by simp [hu])
  · refine ⟨0, 0, ⟨hs.1, fun h0 => absurd h0 hn⟩, fun w' hk => hk.none_, fun w' vs' hk hw => ?_⟩
    have hb : Below w.heap.size w w' := hk.none_.below (lo := w.heap.size) (hi := 0) (Nat.le_refl _) (Nat.le_refl _)
    have h' := h.below hb
    refine ⟨fun t ht => ?_, ?_⟩
    · rcases List.mem_append.1 ht with ht | ht
      · exact h'.each t (by simp [ht])
      · rcases List.mem_cons.1 ht with rfl | ht
        · exact ⟨hw.1, fun h0 => absurd h0 hn⟩
        · exact h'.each t (by simp [ht])
    · have hp := List.pairwise_append.1 h.apart
      have hq := List.pairwise_cons.1 hp.2.1
      refine List.pairwise_append.2 ⟨hp.1, List.pairwise_cons.2 ⟨fun t ht => hq.1 t ht, hq.2⟩, fun t ht u hu => ?_⟩
      rcases List.mem_cons.1 hu with rfl | hu
      · exact hp.2.2 t ht s (by simp)
      · exact hp.2.2 t ht u (by simp [hu])
end
/-- a row of numbers -/
def sgI (A : Option Addr) (n : Nat) (xs : List Int) : Seg := ⟨A, n, xs.map i64⟩

/-! ### A row of elements of k cells each -/
section
variable {α : Type} (f : α → List Value) (k : Nat)
/-- a row of n elements -/
def sgX (A : Option Addr) (n : Nat) (xs : List α) : Seg := ⟨A, n * k, xs.flatMap f⟩
theorem flatX_len (hf : ∀ x, (f x).length = k) : ∀ xs : List α, (xs.flatMap f).length = xs.length * k
  | [] => by simp
  | x :: l => by rw [List.flatMap_cons, List.length_append, hf, flatX_len hf l, List.length_cons, Nat.add_mul]; omega
theorem flatX_at (hf : ∀ x, (f x).length = k) : ∀ (xs : List α) (j i : Nat) (x : α), xs[j]? = some x → i < k → (xs.flatMap f)[j * k + i]? = (f x)[i]?
  | [], j, i, x, h, _ => by simp at h
  | y :: l, 0, i, x, h, hi => by
    simp at h; subst h
    rw [List.flatMap_cons, Nat.zero_mul, Nat.zero_add, List.getElem?_append_left (by rw [hf]; exact hi)]
  | y :: l, j + 1, i, x, h, hi => by
    rw [List.flatMap_cons, List.getElem?_append_right (by rw [hf, Nat.add_mul]; omega), hf, show (j + 1) * k + i - k = j * k + i by rw [Nat.add_mul]; omega]
    exact flatX_at hf l j i x (by simpa using h) hi
end
end Go.Proofs.YtdendllginlidaaGreatDoor
