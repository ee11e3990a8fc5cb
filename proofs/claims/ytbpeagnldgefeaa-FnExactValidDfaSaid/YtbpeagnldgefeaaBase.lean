/-
  Plain words for memory: a slice that reads as a list of values, a block that is known whole, rows that are filled from the front. Nothing of the program.
-/
import Derived.WalkKit
import Derived.Below
import Derived.Deep.Draws
import Derived.Lib.Hide
import Derived.Laws.MakeOwn
import Derived.Laws.Rows
import Derived.Laws.OwnMore
import Derived.Deep.QuietTactic
namespace Go.Proofs.Ytbpeagnldgefeaa
open Go.RowKit

theorem ret_eq {a b : Value} (h : a = b) : Ending.returned a = .returned b := by rw [h]

theorem block_add (a : Addr) (n : Nat) : (a.add n).block = a.block := by unfold Addr.add; split <;> rfl
theorem add_add (a : Addr) (i j : Nat) : (a.add i).add j = a.add (i + j) := by
  unfold Addr.add
  by_cases hi : i = 0 <;> by_cases hj : j = 0 <;> simp [hi, hj, Nat.add_assoc]
theorem head_add (g k : Nat) : (⟨g, 0, none⟩ : Addr).add k = ⟨g, k, none⟩ := by
  unfold Addr.add; split <;> simp_all

theorem drop_at {α : Type} {xs : List α} {k : Nat} {x : α} (h : xs[k]? = some x) : xs.drop k = x :: xs.drop (k + 1) := by
  obtain ⟨hk, rfl⟩ := List.getElem?_eq_some_iff.1 h
  exact List.drop_eq_getElem_cons hk
theorem take_at {α : Type} {xs : List α} {k : Nat} {x : α} (h : xs[k]? = some x) : xs.take (k + 1) = xs.take k ++ [x] := by
  obtain ⟨hk, rfl⟩ := List.getElem?_eq_some_iff.1 h
  exact List.take_succ_eq_append_getElem hk

abbrev i64 (x : Int) : Value := .int .i64 x

/-! ### 'Below', once more -/
theorem below_drew {B : Nat} {a w : World} (h : Below B a w) : Below B a w.drew := ⟨h.os, h.tape, h.output, h.size, h.block⟩
theorem below_drewN {B : Nat} {a w : World} (h : Below B a w) (n : Nat) : Below B a (w.drewN n) := ⟨h.os, h.tape, h.output, h.size, h.block⟩
theorem below_of_drew {w w' : World} (h : Below w.drew.heap.size w.drew w') : Below w.heap.size w w' := ⟨h.os, h.tape, h.output, h.size, h.block⟩
theorem below_size {w : World} : Below w.heap.size w w := Below.refl _ _
theorem below_chain {B : Nat} {a b c : World} (h : Below B a b) (hB : B ≤ b.heap.size) (k : Below b.heap.size b c) : Below B a c := h.trans (k.mono hB)

theorem bcell {W w1 : World} (hb : Below W.heap.size W w1) : (∀ b o, b < W.heap.size → w1.cell? ⟨b, o, none⟩ = W.cell? ⟨b, o, none⟩) ∧ (∀ b o, b < W.heap.size → w1.frozen? ⟨b, o, none⟩ = W.frozen? ⟨b, o, none⟩) :=
  ⟨fun b o h => hb.cell (p := ⟨b, o, none⟩) h, fun b o h => hb.frozen (p := ⟨b, o, none⟩) h⟩

/-! ### A cell that is known stays known -/
theorem keepc {W w' : World} {p : Addr} {v : Value} (hb : Below W.heap.size W w') (h : W.cell? p = some v) : w'.cell? p = some v :=
  (hb.cell (World.block_lt_of_cell? W _ h)).trans h
theorem keepa {W : World} {p : Addr} {v : Value} (o : Obj) (h : W.cell? p = some v) : (W.alloc o).cell? p = some v :=
  keepc (below_size.alloc (Nat.le_refl _) o) h
theorem keepB {B : Nat} {W w' : World} {p : Addr} {v : Value} (hb : Below B W w') (hp : p.block < B) (h : W.cell? p = some v) : w'.cell? p = some v := (hb.cell hp).trans h
theorem new_cell (w : World) (cs : Array Value) (t : TypeId) (i : Nat) : (w.alloc (.cells cs t)).cell? ⟨w.heap.size, i, none⟩ = cs[i]? := cell_of_row _ _ i cs t (0, 0) (heap_alloc_new w _)

theorem quiet_left {P : Program} {f : FuncId} {args : Array Value} {w : World} {n : Nat} {v : Value}
    (h : Calls P f args (w.drewN n) fun e w' => e = .returned v ∧ w.drewN n = w') : Calls P f args (w.drewN n) fun e w'' => e = .returned v ∧ ∃ m, w'' = w.drewN m :=
  h.mono fun _ _ ⟨he, hm⟩ => ⟨he, n, hm.symm⟩

theorem quiet_add_left {P : Program} {f : FuncId} {args : Array Value} {w : World} {a n : Nat} {v : Value}
    (h : Calls P f args (w.drewN (a + n)) fun e w' => e = .returned v ∧ w.drewN (a + n) = w') : Calls P f args (w.drewN (a + n)) fun e w'' => e = .returned v ∧ ∃ m, w'' = w.drewN (a + m) :=
  h.mono fun _ _ ⟨he, hm⟩ => ⟨he, n, hm.symm⟩
theorem quiet_add {P : Program} {f : FuncId} {args : Array Value} {w : World} {a n : Nat} {v : Value}
    (h : Calls P f args (w.drewN (a + n)) fun e w' => e = .returned v ∧ ∃ m, w' = (w.drewN (a + n)).drewN m) : Calls P f args (w.drewN (a + n)) fun e w'' => e = .returned v ∧ ∃ m, w'' = w.drewN (a + m) :=
  h.mono fun _ _ ⟨he, m, hm⟩ => ⟨he, n + m, by rw [hm, World.drewN_drewN, Nat.add_assoc]⟩

/-- nothing but draws -/
def Qt (w w' : World) : Prop := ∃ m, w' = w.drewN m
theorem Qt.refl (w : World) : Qt w w := ⟨0, rfl⟩
theorem Qt.drewN {w w' : World} (h : Qt w w') (k : Nat) : Qt w (w'.drewN k) := by obtain ⟨m, rfl⟩ := h; exact ⟨m + k, by rw [World.drewN_drewN]⟩
theorem Qt.drew {w w' : World} (h : Qt w w') : Qt w w'.drew := h.drewN 1
theorem Qt.below {w w' : World} (h : Qt w w') (B : Nat) : Below B w w' := by obtain ⟨m, rfl⟩ := h; exact below_drewN (Below.refl _ _) m
theorem Qt.trans {a b c : World} (h : Qt a b) (k : Qt b c) : Qt a c := by obtain ⟨m, rfl⟩ := k; exact h.drewN m

/-! ### A slice that reads as a list -/
def Rd (w : World) (A : Option Addr) (n : Nat) (vs : List Value) : Prop :=
  vs.length = n ∧ (0 < n → ∃ ad : Addr, A = some ad ∧ ad.block < w.heap.size ∧ ∀ j v, vs[j]? = some v → w.cell? (ad.add j) = some v)

section
variable {w w' : World} {n : Nat} {A : Option Addr} {vs : List Value}
theorem Rd.nil {A : Option Addr} : Rd w A 0 [] := ⟨rfl, fun h => absurd h (by omega)⟩
theorem Rd.at_ {k : Nat} (h : Rd w A n vs) (hk : k < n) : ∃ ad v, A = some ad ∧ ad.block < w.heap.size ∧ vs[k]? = some v ∧ w.cell? (ad.add k) = some v := by
  obtain ⟨ad, e, hb, hc⟩ := h.2 (by omega)
  have hl : k < vs.length := by have := h.1; omega
  exact ⟨ad, vs[k], e, hb, List.getElem?_eq_getElem hl, hc k _ (List.getElem?_eq_getElem hl)⟩
theorem Rd.below (h : Rd w A n vs) (hb : Below w.heap.size w w') : Rd w' A n vs :=
  ⟨h.1, fun hn => by
    obtain ⟨ad, e, hlt, hc⟩ := h.2 hn
    exact ⟨ad, e, Nat.lt_of_lt_of_le hlt hb.size, fun j u hu => (hb.cell (p := ad.add j) (by rw [block_add]; exact hlt)).trans (hc j u hu)⟩⟩
/-- the slice lies below B, and what lies below B is as it was -/
theorem Rd.belowB {B : Nat} (h : Rd w A n vs) (hB : ∀ ad, 0 < n → A = some ad → ad.block < B) (hb : Below B w w') : Rd w' A n vs :=
  ⟨h.1, fun hn => by
    obtain ⟨ad, e, hlt, hc⟩ := h.2 hn
    exact ⟨ad, e, Nat.lt_of_lt_of_le hlt hb.size, fun j u hu => (hb.cell (p := ad.add j) (by rw [block_add]; exact hB ad hn e)).trans (hc j u hu)⟩⟩
theorem Rd.blocks (h : Rd w A n vs) (ad : Addr) (hn : 0 < n) (e : A = some ad) : ad.block < w.heap.size := by
  obtain ⟨ad', e', hlt, _⟩ := h.2 hn
  rw [e] at e'; injection e' with e'; rw [e']; exact hlt
theorem Rd.alloc (h : Rd w A n vs) (o : Obj) : Rd (w.alloc o) A n vs := h.below (below_size.alloc (Nat.le_refl _) o)
theorem Rd.drew (h : Rd w A n vs) : Rd w.drew A n vs := h
theorem Rd.drewN (h : Rd w A n vs) (k : Nat) : Rd (w.drewN k) A n vs := h
end

/-- a slice of int64 that reads as a list of numbers -/
def RdI (w : World) (A : Option Addr) (n : Nat) (xs : List Int) : Prop := Rd w A n (xs.map i64)
section
variable {w w' : World} {n : Nat} {A : Option Addr} {xs : List Int}
theorem RdI.len (h : RdI w A n xs) : xs.length = n := by simpa using h.1
theorem RdI.at_ {k : Nat} (h : RdI w A n xs) (hk : k < n) : ∃ ad x, A = some ad ∧ ad.block < w.heap.size ∧ xs[k]? = some x ∧ w.cell? (ad.add k) = some (.int .i64 x) := by
  obtain ⟨ad, v, e, hb, hv, hc⟩ := Rd.at_ h hk
  rw [List.getElem?_map] at hv
  obtain ⟨x, hx, rfl⟩ := Option.map_eq_some_iff.1 hv
  exact ⟨ad, x, e, hb, hx, hc⟩
theorem RdI.set_far {g : Nat} (h : RdI w (some ⟨g, 0, none⟩) n xs) {p : Addr} (hp : g ≠ p.block) (u : Value) : RdI (w.setCell p u) (some ⟨g, 0, none⟩) n xs :=
  ⟨h.1, fun hn => by
    obtain ⟨ad, e, hlt, hc⟩ := h.2 hn
    injection e with e; subst e
    refine ⟨_, rfl, by simpa using hlt, fun j v hj => ?_⟩
    rw [head_add]
    have := hc j v hj
    rw [head_add] at this
    rw [World.cell?_setCell_other _ _ _ _ (fun e => hp (by rw [e]))]; exact this⟩
theorem RdI.nil {A : Option Addr} : RdI w A 0 [] := Rd.nil
theorem RdI.below (h : RdI w A n xs) (hb : Below w.heap.size w w') : RdI w' A n xs := Rd.below h hb
theorem RdI.alloc (h : RdI w A n xs) (o : Obj) : RdI (w.alloc o) A n xs := Rd.alloc h o
theorem RdI.drew (h : RdI w A n xs) : RdI w.drew A n xs := h
theorem RdI.drewN (h : RdI w A n xs) (k : Nat) : RdI (w.drewN k) A n xs := h
end

/-- a slice of bool that reads as a list -/
def RdB (w : World) (A : Option Addr) (n : Nat) (xs : List Bool) : Prop := Rd w A n (xs.map Value.bool)
section
variable {w w' : World} {n : Nat} {A : Option Addr} {xs : List Bool}
theorem RdB.len (h : RdB w A n xs) : xs.length = n := by simpa using h.1
theorem RdB.at_ {k : Nat} (h : RdB w A n xs) (hk : k < n) : ∃ ad x, A = some ad ∧ ad.block < w.heap.size ∧ xs[k]? = some x ∧ w.cell? (ad.add k) = some (.bool x) := by
  obtain ⟨ad, v, e, hb, hv, hc⟩ := Rd.at_ h hk
  rw [List.getElem?_map] at hv
  obtain ⟨x, hx, rfl⟩ := Option.map_eq_some_iff.1 hv
  exact ⟨ad, x, e, hb, hx, hc⟩
theorem RdB.below (h : RdB w A n xs) (hb : Below w.heap.size w w') : RdB w' A n xs := Rd.below h hb
end

/-! ### A slice that may be written -/
def Wr (w : World) (B : Nat) (A : Option Addr) (n : Nat) (vs : List Value) : Prop :=
  vs.length = n ∧ (0 < n → ∃ ad : Addr, A = some ad ∧ B ≤ ad.block ∧ ad.block < w.heap.size ∧ ∀ j v, vs[j]? = some v → w.cell? (ad.add j) = some v ∧ w.frozen? (ad.add j) = false)
section
variable {w w' : World} {B n : Nat} {A : Option Addr} {vs : List Value}
theorem Wr.rd (h : Wr w B A n vs) : Rd w A n vs := ⟨h.1, fun hn => by obtain ⟨ad, e, _, hlt, hc⟩ := h.2 hn; exact ⟨ad, e, hlt, fun j v hv => (hc j v hv).1⟩⟩
theorem Wr.below (h : Wr w B A n vs) (hb : Below w.heap.size w w') : Wr w' B A n vs :=
  ⟨h.1, fun hn => by
    obtain ⟨ad, e, hB, hlt, hc⟩ := h.2 hn
    exact ⟨ad, e, hB, Nat.lt_of_lt_of_le hlt hb.size, fun j u hu => ⟨(hb.cell (p := ad.add j) (by rw [block_add]; exact hlt)).trans (hc j u hu).1, (hb.frozen (p := ad.add j) (by rw [block_add]; exact hlt)).trans (hc j u hu).2⟩⟩⟩
theorem Wr.at_ {k : Nat} (h : Wr w B A n vs) (hk : k < n) : ∃ ad v, A = some ad ∧ B ≤ ad.block ∧ ad.block < w.heap.size ∧ vs[k]? = some v ∧ w.cell? (ad.add k) = some v ∧ w.frozen? (ad.add k) = false := by
  obtain ⟨ad, e, hB, hb, hc⟩ := h.2 (by omega)
  have hl : k < vs.length := by have := h.1; omega
  have := hc k _ (List.getElem?_eq_getElem hl)
  exact ⟨ad, vs[k], e, hB, hb, List.getElem?_eq_getElem hl, this.1, this.2⟩
end

theorem Wr.rdI {w : World} {B n : Nat} {A : Option Addr} {xs : List Int} (h : Wr w B A n (xs.map i64)) : RdI w A n xs := h.rd
theorem off_add (a : Addr) (n : Nat) : (a.add n).off = a.off + n := by unfold Addr.add; split <;> simp_all
theorem Wr.set {w : World} {B n k : Nat} {ad : Addr} {vs : List Value} (h : Wr w B (some ad) n vs) (hk : k < n) (u : Value) : Wr (w.setCell (ad.add k) u) B (some ad) n (vs.set k u) := by
  refine ⟨by rw [List.length_set]; exact h.1, fun hn => ?_⟩
  obtain ⟨ad', e, hB, hb, hc⟩ := h.2 hn
  injection e with e; subst e
  refine ⟨ad, rfl, hB, by rw [World.size_setCell]; exact hb, fun j v hj => ?_⟩
  rw [World.frozen?_setCell]
  by_cases hjk : k = j
  · subst hjk
    have hl : k < vs.length := by have := h.1; omega
    rw [List.getElem?_set_self hl] at hj
    injection hj with hj; subst hj
    have := hc k _ (List.getElem?_eq_getElem hl)
    exact ⟨World.cell?_setCell_same _ _ _ this.1, this.2⟩
  · rw [List.getElem?_set_ne hjk] at hj
    have := hc j v hj
    refine ⟨?_, this.2⟩
    rw [World.cell?_setCell_other _ _ _ _ (fun e => hjk (by have := congrArg Addr.off e; rw [off_add, off_add] at this; omega))]
    exact this.1
/-- the numbers k, k + 1, .. -/
def marks (k : Int) : Nat → List Int
  | 0 => []
  | n + 1 => k :: marks (k + 1) n
theorem marks_len (n : Nat) : ∀ k, (marks k n).length = n := by
  induction n with
  | zero => intro k; rfl
  | succ n ih => intro k; simp [marks, ih]
theorem marks_at {n j : Nat} (h : j < n) : ∀ k, (marks k n)[j]? = some (k + j) := by
  induction n generalizing j with
  | zero => omega
  | succ n ih =>
    intro k
    cases j with
    | zero => simp [marks]
    | succ j =>
      simp only [marks, List.getElem?_cons_succ]
      rw [ih (by omega)]
      congr 1; omega

/-! ### A block that is known whole -/
def Blk (w : World) (g : Nat) (t : TypeId) (cs : Array Value) : Prop := w.heap[g]? = some (.cells cs t (0, 0))
section
variable {w w' : World} {g : Nat} {t : TypeId} {cs : Array Value}
theorem Blk.lt (h : Blk w g t cs) : g < w.heap.size := by
  rcases Nat.lt_or_ge g w.heap.size with hlt | hge
  · exact hlt
  · unfold Blk at h; rw [Array.getElem?_eq_none hge] at h; cases h
theorem Blk.cell (h : Blk w g t cs) (i : Nat) : w.cell? ⟨g, i, none⟩ = cs[i]? := cell_of_row w g i cs t (0, 0) h
theorem Blk.frozen (h : Blk w g t cs) (i : Nat) : w.frozen? ⟨g, i, none⟩ = false := by
  unfold Blk at h
  simp [World.frozen?, h]
theorem Blk.new (w : World) (t : TypeId) (cs : Array Value) : Blk (w.alloc (.cells cs t)) w.heap.size t cs := heap_alloc_new w _
theorem Blk.drew (h : Blk w g t cs) : Blk w.drew g t cs := h
theorem Blk.drewN (h : Blk w g t cs) (n : Nat) : Blk (w.drewN n) g t cs := h
theorem Blk.alloc (h : Blk w g t cs) (o : Obj) : Blk (w.alloc o) g t cs := (Below.heap_alloc w o g h.lt).trans h
theorem Blk.set_ (h : Blk w g t cs) (i : Nat) (u : Value) : Blk (w.setCell ⟨g, i, none⟩ u) g t (cs.setIfInBounds i u) := by
  unfold Blk at h ⊢
  simp [World.setCell, Array.getElem?_modify, h]
theorem Blk.far (h : Blk w g t cs) {p : Addr} (hp : g ≠ p.block) (u : Value) : Blk (w.setCell p u) g t cs := (Below.heap_setCell w p u g hp).trans h
theorem Blk.below {B : Nat} (h : Blk w g t cs) (hb : Below B w w') (hg : g < B) : Blk w' g t cs := (hb.block g hg).trans h
theorem Blk.rd (h : Blk w g t cs) {n : Nat} {vs : List Value} (hv : cs.toList.take n = vs) (hn : n ≤ cs.size) : Rd w (some ⟨g, 0, none⟩) n vs := by
  refine ⟨by rw [← hv]; simp; omega, fun _ => ⟨_, rfl, h.lt, fun j v hj => ?_⟩⟩
  rw [head_add, h.cell, ← hj, ← hv, List.getElem?_take]
  split
  · simp
  · rename_i hlt
    rw [← hv, List.getElem?_take, if_neg hlt] at hj; cases hj
theorem Blk.wr (h : Blk w g t cs) {B n : Nat} {vs : List Value} (hB : B ≤ g) (hv : cs.toList.take n = vs) (hn : n ≤ cs.size) : Wr w B (some ⟨g, 0, none⟩) n vs := by
  obtain ⟨h1, h2⟩ := h.rd hv hn
  refine ⟨h1, fun h0 => ?_⟩
  obtain ⟨ad, e, hlt, hc⟩ := h2 h0
  injection e with e; subst e
  exact ⟨_, rfl, hB, hlt, fun j v hj => ⟨hc j v hj, by rw [head_add]; exact h.frozen j⟩⟩
end

/-! ### A row that is filled from the front -/
def fillV (vs : List Value) (z : Value) (k : Nat) : Array Value := (vs.take k ++ List.replicate (vs.length - k) z).toArray
theorem fillV_zero (vs : List Value) (z : Value) : fillV vs z 0 = Array.replicate vs.length z := by simp [fillV]
theorem fillV_all (vs : List Value) (z : Value) : fillV vs z vs.length = vs.toArray := by simp [fillV]
theorem fillV_size (vs : List Value) (z : Value) (k : Nat) (h : k ≤ vs.length) : (fillV vs z k).size = vs.length := by simp [fillV]; omega
theorem fillV_set {vs : List Value} {z v : Value} {k : Nat} (h : vs[k]? = some v) : (fillV vs z k).setIfInBounds k v = fillV vs z (k + 1) := by
  obtain ⟨hk, rfl⟩ := List.getElem?_eq_some_iff.1 h
  unfold fillV
  have ht := take_at h
  simp only [List.setIfInBounds_toArray]
  rw [ht]
  congr 1
  rw [show vs.length - k = (vs.length - (k + 1)) + 1 by omega, List.replicate_succ, List.set_append_right _ _ (by simp; omega)]
  simp only [List.length_take, show min k vs.length = k by omega, Nat.sub_self, List.set_cons_zero, List.append_assoc, List.cons_append, List.nil_append]
theorem fillV_at {vs : List Value} {z : Value} {k : Nat} (h : k < vs.length) : (fillV vs z k)[k]? = some z := by
  unfold fillV
  simp only [List.getElem?_toArray]
  rw [List.getElem?_append_right (by simp; omega)]
  simp only [List.length_take, show min k vs.length = k by omega, Nat.sub_self]
  rw [List.getElem?_replicate, if_pos (by omega)]

theorem made_one (z : Value) (n : Nat) : madeCells #[z] n = Array.replicate n z := by
  apply Array.ext
  · simp [madeCells]
  · intro i h1 h2; simp [madeCells, Nat.mod_one]

/-- 'make([]T, n)', one cell an element -/
theorem run_mk {P : Program} (t e : TypeId) (z : Value) (bytes : Nat) (ht : P.underlying t = some (.slice e)) (hi : (P.info? e).map (fun i => (i.zero, i.size, i.bytes)) = some (some z, 1, bytes)) (hz : z.cells = #[z])
    (kl kc : IntKind) (n c : Nat) (hnc : n ≤ c) (hb : bytes * c ≤ 281474976710656) (h63 : c ≤ 9223372036854775807) (w : World) :
    (Instr.makeSlice t (.int kl (n : Int)) (.int kc (c : Int))).run P w = .ok (.slice (some ⟨w.heap.size, 0, none⟩) n c) (w.alloc (.cells (Array.replicate c z) e)) := by
  obtain ⟨i, hi0, hi1⟩ := Option.map_eq_some_iff.1 hi
  simp only [Prod.mk.injEq] at hi1
  obtain ⟨h1, h2, h3⟩ := hi1
  have hb' : (i.bytes : Int) * (c : Int) ≤ 281474976710656 := by
    have h : ((i.bytes * c : Nat) : Int) ≤ 281474976710656 := by rw [h3]; omega
    rwa [Int.natCast_mul] at h
  have hr := run_make (P := P) w t e i z ht hi0 h1 kl kc n c (by omega) (by omega) hb' (by omega)
  simp only [Int.toNat_natCast, h2, hz, Nat.mul_one, made_one] at hr
  exact hr

end Go.Proofs.Ytbpeagnldgefeaa
