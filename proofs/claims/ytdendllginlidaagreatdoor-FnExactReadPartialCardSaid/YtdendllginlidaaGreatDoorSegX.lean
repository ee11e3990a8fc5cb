/-
  Rows of structs of two or three numbers. Nothing of the program.
-/
import Derived.Test.YtdendllginlidaaGreatDoorSeg
import Derived.Test.YtdendllginlidaaGreatDoorLawI
namespace Go.Proofs.YtdendllginlidaaGreatDoor
open Go.RowKit

def enc2 (x : Int × Int) : List Value := [i64 x.1, i64 x.2]
def enc3 (x : Int × Int × Int) : List Value := [i64 x.1, i64 x.2.1, i64 x.2.2]
theorem enc2_len (x : Int × Int) : (enc2 x).length = 2 := rfl
theorem enc3_len (x : Int × Int × Int) : (enc3 x).length = 3 := rfl
theorem next_off (ad : Addr) (m i : Nat) : (⟨(ad.add m).block, (ad.add m).off + (i + 1), none⟩ : Addr) = ad.add (m + (i + 1)) := by
  rw [block_add, off_add, Addr.add, if_neg (by omega), Nat.add_assoc]

def Rd2 (w : World) (A : Option Addr) (n : Nat) (xs : List (Int × Int)) : Prop := Rd w A (n * 2) (xs.flatMap enc2)
def Rd3 (w : World) (A : Option Addr) (n : Nat) (xs : List (Int × Int × Int)) : Prop := Rd w A (n * 3) (xs.flatMap enc3)
section
variable {w w' : World} {n : Nat} {A : Option Addr}
theorem Rd2.len {xs : List (Int × Int)} (h : Rd2 w A n xs) : xs.length = n := by have := h.1; rw [flatX_len enc2 2 enc2_len] at this; omega
theorem Rd3.len {xs : List (Int × Int × Int)} (h : Rd3 w A n xs) : xs.length = n := by have := h.1; rw [flatX_len enc3 3 enc3_len] at this; omega
theorem Rd2.below {xs : List (Int × Int)} (h : Rd2 w A n xs) (hb : Below w.heap.size w w') : Rd2 w' A n xs := Rd.below h hb
theorem Rd3.below {xs : List (Int × Int × Int)} (h : Rd3 w A n xs) (hb : Below w.heap.size w w') : Rd3 w' A n xs := Rd.below h hb
theorem Rd2.alloc {xs : List (Int × Int)} (h : Rd2 w A n xs) (o : Obj) : Rd2 (w.alloc o) A n xs := Rd.alloc h o
theorem Rd3.alloc {xs : List (Int × Int × Int)} (h : Rd3 w A n xs) (o : Obj) : Rd3 (w.alloc o) A n xs := Rd.alloc h o
theorem Rd2.at_ {k : Nat} {xs : List (Int × Int)} (h : Rd2 w A n xs) (hk : k < n) : ∃ ad x, A = some ad ∧ ad.block < w.heap.size ∧ xs[k]? = some x ∧ w.cell? (ad.add (k * 2)) = some (i64 x.1) ∧ w.cell? ⟨(ad.add (k * 2)).block, (ad.add (k * 2)).off + 1, none⟩ = some (i64 x.2) := by
  obtain ⟨ad, e, hlt, hc⟩ := h.2 (by omega)
  have hl := h.len
  have hx : xs[k]? = some xs[k] := List.getElem?_eq_getElem (by omega)
  have h0 := flatX_at enc2 2 enc2_len xs k 0 _ hx (by omega)
  have h1 := flatX_at enc2 2 enc2_len xs k 1 _ hx (by omega)
  exact ⟨ad, xs[k], e, hlt, hx, hc _ _ h0, by rw [next_off ad (k * 2) 0]; exact hc _ _ h1⟩
theorem Rd3.at_ {k : Nat} {xs : List (Int × Int × Int)} (h : Rd3 w A n xs) (hk : k < n) : ∃ ad x, A = some ad ∧ ad.block < w.heap.size ∧ xs[k]? = some x ∧ w.cell? (ad.add (k * 3)) = some (i64 x.1) ∧ w.cell? ⟨(ad.add (k * 3)).block, (ad.add (k * 3)).off + 1, none⟩ = some (i64 x.2.1) ∧ w.cell? ⟨(ad.add (k * 3)).block, (ad.add (k * 3)).off + 2, none⟩ = some (i64 x.2.2) := by
  obtain ⟨ad, e, hlt, hc⟩ := h.2 (by omega)
  have hl := h.len
  have hx : xs[k]? = some xs[k] := List.getElem?_eq_getElem (by omega)
  have h0 := flatX_at enc3 3 enc3_len xs k 0 _ hx (by omega)
  have h1 := flatX_at enc3 3 enc3_len xs k 1 _ hx (by omega)
  have h2 := flatX_at enc3 3 enc3_len xs k 2 _ hx (by omega)
  exact ⟨ad, xs[k], e, hlt, hx, hc _ _ h0, by rw [next_off ad (k * 3) 0]; exact hc _ _ h1, by rw [next_off ad (k * 3) 1]; exact hc _ _ h2⟩
end
theorem fillV_past' {vs : List Value} {z : Value} {k j : Nat} (h : k ≤ j) (hj : j < vs.length) : (fillV vs z k)[j]? = some z := by
  unfold fillV
  rw [List.getElem?_toArray, List.getElem?_append_right (by simp; omega), List.getElem?_replicate, if_pos (by simp; omega)]
theorem made_k (z : Value) (k n : Nat) (hk : 0 < k) : madeCells (Array.replicate k z) (n * k) = Array.replicate (n * k) z := by
  apply Array.ext
  · simp [madeCells]
  · intro i h1 h2
    have := Nat.mod_lt i hk
    simp [madeCells, this]
/-- 'make([]T, n)', k like cells an element -/
theorem run_mkK {P : Program} (t e : TypeId) (zz z : Value) (bytes k : Nat) (hk : 0 < k) (ht : P.underlying t = some (.slice e)) (hi : (P.info? e).map (fun i => (i.zero, i.size, i.bytes)) = some (some zz, k, bytes)) (hz : zz.cells = Array.replicate k z)
    (kl kc : IntKind) (n c : Nat) (hnc : n ≤ c) (hb : bytes * c ≤ 281474976710656) (h63 : c ≤ 9223372036854775807) (w : World) :
    (Instr.makeSlice t (.int kl (n : Int)) (.int kc (c : Int))).run P w = .ok (.slice (some ⟨w.heap.size, 0, none⟩) n c) (w.alloc (.cells (Array.replicate (c * k) z) e)) := by
  obtain ⟨i, hi0, hi1⟩ := Option.map_eq_some_iff.1 hi
  simp only [Prod.mk.injEq] at hi1
  obtain ⟨h1, h2, h3⟩ := hi1
  have hb' : (i.bytes : Int) * (c : Int) ≤ 281474976710656 := by
    have h : ((i.bytes * c : Nat) : Int) ≤ 281474976710656 := by rw [h3]; omega
    rwa [Int.natCast_mul] at h
  have hr := run_make (P := P) w t e i zz ht hi0 h1 kl kc n c (by omega) (by omega) hb' (by omega)
  simp only [Int.toNat_natCast, h2, hz, made_k z k c hk] at hr
  exact hr
theorem next_1 (ad : Addr) (m : Nat) : (⟨(ad.add m).block, (ad.add m).off + 1, none⟩ : Addr) = ad.add (m + 1) := next_off ad m 0
theorem next_2 (ad : Addr) (m : Nat) : (⟨(ad.add m).block, (ad.add m).off + 2, none⟩ : Addr) = ad.add (m + 1 + 1) := next_off ad m 1
/-- the first m cells of a row hold k0, k0 + 1, .. -/
def MarkTo (w : World) (lo hi : Nat) (A : Option Addr) (N : Nat) (k0 : Int) (m : Nat) : Prop := ∃ us, Wr w lo hi A N us ∧ ∀ j, j < m → us[j]? = some (i64 (k0 + j))
theorem MarkTo.step {w : World} {lo hi N m : Nat} {k0 v : Int} {ad p : Addr} (h : MarkTo w lo hi (some ad) N k0 m) (hp : p = ad.add m) (hm : m < N) (hv : v = k0 + m) : MarkTo (w.setCell p (.int .i64 v)) lo hi (some ad) N k0 (m + 1) := by
  subst hp; subst hv
  obtain ⟨us, hw, hu⟩ := h
  refine ⟨_, hw.set hm _, fun j hj => ?_⟩
  by_cases hjk : m = j
  · subst hjk; rw [List.getElem?_set_self (by have := hw.1; omega)]
  · rw [List.getElem?_set_ne hjk]; exact hu j (by omega)
theorem MarkTo.all {w : World} {lo hi N : Nat} {k0 : Int} {A : Option Addr} (h : MarkTo w lo hi A N k0 N) : Wr w lo hi A N ((marks k0 N).map i64) := by
  obtain ⟨us, hw, hu⟩ := h
  have e : us = (marks k0 N).map i64 := by
    apply List.ext_getElem?
    intro j
    by_cases hj : j < N
    · rw [hu j hj, List.getElem?_map, marks_at hj]; rfl
    · rw [List.getElem?_eq_none (by rw [hw.1]; omega), List.getElem?_eq_none (by rw [List.length_map, marks_len]; omega)]
  rw [← e]; exact hw
theorem MarkTo.cells {w : World} {lo hi N m i : Nat} {k0 : Int} {A : Option Addr} (h : MarkTo w lo hi A N k0 m) (hi' : i < N) : ∃ ad v, A = some ad ∧ lo ≤ ad.block ∧ ad.block < hi ∧ ad.block < w.heap.size ∧ w.cell? (ad.add i) = some v ∧ w.frozen? (ad.add i) = false := by
  obtain ⟨us, hw, _⟩ := h
  obtain ⟨ad, v, e, h1, h2, h3, _, hc, hf⟩ := hw.at_ hi'
  exact ⟨ad, v, e, h1, h2, h3, hc, hf⟩
theorem marked_at {w : World} {N i : Nat} {k0 : Int} {A : Option Addr} (h : Rd w A N ((marks k0 N).map i64)) (hi : i < N) : ∃ ad, A = some ad ∧ ad.block < w.heap.size ∧ w.cell? (ad.add i) = some (i64 (k0 + i)) := by
  obtain ⟨ad, v, e, hb, hv, hc⟩ := h.at_ hi
  rw [List.getElem?_map, marks_at hi] at hv
  injection hv with hv; subst hv
  exact ⟨ad, e, hb, hc⟩
theorem set_other {w : World} {p q : Addr} {v : Value} (u : Value) (h : w.cell? q = some v) (hne : q.off ≠ p.off) : (w.setCell p u).cell? q = some v := by
  rw [World.cell?_setCell_other _ _ _ _ (fun e => hne (by rw [e]))]; exact h
theorem new_cells2 {w : World} (o : Obj) (u v : Value) (t : TypeId) (j : Nat) (x : Value) (hj : [u, v][j]? = some x) : ((w.alloc o).alloc (.cells #[u, v] t)).cell? ((⟨w.heap.size + 1, 0, none⟩ : Addr).add j) = some x := by
  have := new_cell (w.alloc o) #[u, v] t j
  rw [World.size_alloc] at this
  rw [head_add, this, ← hj]
  simp
theorem new_cellsK {w : World} (cs : Array Value) (t : TypeId) (j : Nat) (x : Value) (hj : cs.toList[j]? = some x) : (w.alloc (.cells cs t)).cell? ((⟨w.heap.size, 0, none⟩ : Addr).add j) = some x := by
  rw [head_add, new_cell w cs t j, ← hj]
  simp
theorem one_ints (xs : List Int) : ∀ u ∈ xs.map i64, u.oneCell' = true := by
  intro u hu
  obtain ⟨b, _, rfl⟩ := List.mem_map.1 hu
  rfl
theorem Rd.move {w w' : World} {A : Option Addr} {n : Nat} {vs : List Value} (h : Rd w A n vs) (hk : ∀ ad, 0 < n → A = some ad → w'.heap[ad.block]? = w.heap[ad.block]?) (hs : w.heap.size ≤ w'.heap.size) : Rd w' A n vs :=
  ⟨h.1, fun hn => by
    obtain ⟨ad, e, hlt, hc⟩ := h.2 hn
    have hb := hk ad hn e
    exact ⟨ad, e, Nat.lt_of_lt_of_le hlt hs, fun j u hu => (World.cell?_of_block (a := ad.add j) (by rw [block_add]; exact hb)).trans (hc j u hu)⟩⟩
end Go.Proofs.YtdendllginlidaaGreatDoor
