/-
  Contracts of chapter 12: combinator terms of the reference: valid ones, ends, forms.
-/
import Derived.Test.YtkchgjegdmcnaaaDoorP12c
import Derived.Test.YtkchgjegdmcnaaaDoorLawComb
import Derived.Test.YtkchgjegdmcnaaaDoorApp
namespace Go.Proofs.YtkchgjegdmcnaaaDoor
open Go.RowKit


def atI : Option Nat → Int
  | none => -1
  | some k => k
theorem one_pairs (xs : List (Int × Int)) : ∀ u ∈ xs.flatMap enc2, u.oneCell' = true := by
  intro u hu
  obtain ⟨y, _, hy⟩ := List.mem_flatMap.1 hu
  rcases List.mem_cons.1 hy with rfl | hy
  · rfl
  · rw [List.mem_singleton] at hy; subst hy; rfl
theorem flat_take {l : List (Int × Int)} {k : Nat} : (l.flatMap enc2).take (k * 2) = (l.take k).flatMap enc2 := by
  induction l generalizing k with
  | nil => simp
  | cons x l ih =>
    cases k with
    | zero => simp
    | succ k => rw [List.flatMap_cons, List.take_succ_cons, List.flatMap_cons, ← ih, Nat.succ_mul]; rfl
theorem flat_drop {l : List (Int × Int)} {k : Nat} : (l.flatMap enc2).drop (k * 2) = (l.drop k).flatMap enc2 := by
  induction l generalizing k with
  | nil => simp
  | cons x l ih =>
    cases k with
    | zero => simp
    | succ k => rw [List.flatMap_cons, List.drop_succ_cons, ← ih, Nat.succ_mul]; rfl
/-- a part of a list of pairs -/
theorem Rd2.part {w : World} {ad : Addr} {n : Nat} {c : List (Int × Int)} (h : Rd2 w (some ad) n c) (k p : Nat) (hkp : k + p ≤ n) : Rd2 w (some (ad.add (k * 2))) p ((c.drop k).take p) := by
  have hl := h.len
  refine ⟨?_, fun hp => ?_⟩
  · rw [flatX_len enc2 2 enc2_len, List.length_take, List.length_drop, hl]; omega
  · obtain ⟨_, e, hb, hc⟩ := h.2 (by omega)
    injection e with e; subst e
    refine ⟨_, rfl, by rw [block_add]; exact hb, fun j v hj => ?_⟩
    rw [← flat_take, ← flat_drop, List.getElem?_take] at hj
    split at hj
    · rw [List.getElem?_drop] at hj
      rw [add_add]; exact hc _ v hj
    · cases hj
theorem Rd2.upto {w : World} {A : Option Addr} {n : Nat} {c : List (Int × Int)} (h : Rd2 w A n c) (k : Nat) (hk : k ≤ n) : Rd2 w A k (c.take k) := by
  have hl := h.len
  refine ⟨?_, fun hp => ?_⟩
  · rw [flatX_len enc2 2 enc2_len, List.length_take, hl]; omega
  · obtain ⟨ad, rfl, hb, hc⟩ := h.2 (by omega)
    refine ⟨_, rfl, hb, fun j v hj => ?_⟩
    rw [← flat_take, List.getElem?_take] at hj
    split at hj
    · exact hc _ v hj
    · cases hj
theorem Rd2.none0 {w : World} {A : Option Addr} : Rd2 w A 0 [] := ⟨rfl, fun h => absurd h (by omega)⟩
/-- append of a list of pairs to a slice of the call's own -/
theorem info_pExpr : (Tryd.prog.info? 77).map (fun i => (i.zero, i.size, i.bytes)) = some (some (.agg #[.int .i64 0, .int .i64 0]), 2, 16) := by kernel_rfl
theorem wp_appExpr {ops : Array Oper} {rest : List Oper} {o : Oper} {a : Act} {w : World} {Q : Exit → Act → World → Prop} (hgd : o.guard = none) (s x : Operand)
    (ho : o.op = .call { callee := .builtin .append, args := #[s, x], argTypes := #[40, 40] })
    (B : Nat) (A : Option Addr) (n c : Nat) (vs : List Value) (hs : a.eval s = .slice A n c) (hown : Own w B 77 2 A n c vs)
    (X : Option Addr) (m c' : Nat) (xs : List (Int × Int)) (hx : a.eval x = .slice X m c') (hX : Rd2 w X m xs) (hlen : n + m ≤ 1000000000) (hB : B ≤ w.heap.size)
    (h : ∀ A' cap w', Own w' B 77 2 A' (n + m) cap (vs ++ xs.flatMap enc2) → Below B w w' → (∀ b, b < w.heap.size → (∀ ad', A = some ad' → ad'.block ≠ b) → w'.heap[b]? = w.heap[b]?) → (A' = A ∨ A' = some ⟨w.heap.size, 0, none⟩) → w.heap.size ≤ w'.heap.size →
      wpList Tryd.prog ops Q rest (a.put o.dst (.slice A' (n + m) cap)) w') : wpList Tryd.prog ops Q (o :: rest) a w := by
  by_cases h0 : 0 < m
  · obtain ⟨hl, hc⟩ := hX
    obtain ⟨ad, rfl, hab, hcs⟩ := hc (by omega)
    refine wp_app hgd s x 40 77 (.agg #[.int .i64 0, .int .i64 0]) 2 16 ho Tryd.underlying40 info_pExpr rfl (by omega) B A n c vs hs hown ad m c' (xs.flatMap enc2) hx h0 hl hcs (one_pairs xs) (by omega) (by omega) hB ?_
    intro g' cap w2 own2 hb2 hk2 hg2 hz2
    exact h _ cap w2 own2 hb2 hk2 (hg2.elim (fun e => .inl e.symm) (fun e => .inr (by rw [e]))) hz2
  · obtain rfl : m = 0 := by omega
    have hws : xs = [] := List.length_eq_zero_iff.1 hX.len
    subst hws
    refine wp_app0 hgd s x 40 77 (.agg #[.int .i64 0, .int .i64 0]) 2 16 ho Tryd.underlying40 info_pExpr A n c hs hown.cap X c' hx ?_
    exact h A c w (by simpa using hown) ⟨rfl, rfl, rfl, Nat.le_refl _, fun _ _ => rfl⟩ (fun _ _ _ => rfl) (.inl rfl) (Nat.le_refl _)
end Go.Proofs.YtkchgjegdmcnaaaDoor
