/-
  Contracts of chapter 26: steps within a segment (ForwardPartial).
-/
import Derived.Test.YtfahdgmlhinabaaC26
import Derived.Test.YtfahdgmlhinabaaC27
import Derived.Test.YtfahdgmlhinabaaMixF
import Derived.Deep.DeepCutAuto
namespace Go.Proofs.Ytfahdgmlhinabaa
open Go.RowKit

/-- f: steps that may still be made; n: steps made; the state, the place, the cells; how it ends -/
def fwGo (rs : List Rule3) (sy : Int) : Nat → Nat → Int → Nat → List Int → (Int × Int × List Int) × Int × Int
  | 0, n, q, k, out => if ruleAt rs sy q (out.getD k 0) = noneR then ((q, (k : Int), out), (n : Int), 0) else ((q, (k : Int), out), (n : Int), 3)
  | f + 1, n, q, k, out =>
    if ruleAt rs sy q (out.getD k 0) = noneR then ((q, (k : Int), out), (n : Int), 0)
    else if (k : Int) + (ruleAt rs sy q (out.getD k 0)).2.1 < 0 then (((ruleAt rs sy q (out.getD k 0)).2.2, k, out.set k (ruleAt rs sy q (out.getD k 0)).1), (n + 1 : Nat), 1)
    else if (k : Int) + (ruleAt rs sy q (out.getD k 0)).2.1 = out.length then (((ruleAt rs sy q (out.getD k 0)).2.2, k, out.set k (ruleAt rs sy q (out.getD k 0)).1), (n + 1 : Nat), 2)
    else fwGo rs sy f (n + 1) (ruleAt rs sy q (out.getD k 0)).2.2 ((k : Int) + (ruleAt rs sy q (out.getD k 0)).2.1).toNat (out.set k (ruleAt rs sy q (out.getD k 0)).1)
def fwR (sy st : Int) (rs : List Rule3) (s a : Int) (xs : List Int) (b : Int) : (Int × Int × List Int) × Int × Int × Int :=
  if !vpartB sy st rs s a xs then ((0, 0, []), 0, 0, 1)
  else if !inB b 1 20000 then ((0, 0, []), 0, 0, 2)
  else ((fwGo rs sy b.toNat 0 s a.toNat xs).1, (fwGo rs sy b.toNat 0 s a.toNat xs).2.1, (fwGo rs sy b.toNat 0 s a.toNat xs).2.2, 0)
section
variable {rs : List Rule3} {sy q c p mv nx : Int} {f n k : Nat} {out : List Int}
theorem fwGo_none (hc : out[k]? = some c) (hr : ruleAt rs sy q c = noneR) : fwGo rs sy f n q k out = ((q, (k : Int), out), (n : Int), 0) := by
  have e : out.getD k 0 = c := by rw [List.getD_eq_getElem?_getD, hc]; rfl
  cases f <;> rw [fwGo, e, if_pos hr]
theorem fwGo_stop (hc : out[k]? = some c) (hr : ruleAt rs sy q c = (p, mv, nx)) (hn : (p, mv, nx) ≠ noneR) : fwGo rs sy 0 n q k out = ((q, (k : Int), out), (n : Int), 3) := by
  have e : out.getD k 0 = c := by rw [List.getD_eq_getElem?_getD, hc]; rfl
  rw [fwGo, e, hr, if_neg hn]
theorem fwGo_left (hc : out[k]? = some c) (hr : ruleAt rs sy q c = (p, mv, nx)) (hn : (p, mv, nx) ≠ noneR) (hl : (k : Int) + mv < 0) : fwGo rs sy (f + 1) n q k out = ((nx, (k : Int), out.set k p), ((n + 1 : Nat) : Int), 1) := by
  have e : out.getD k 0 = c := by rw [List.getD_eq_getElem?_getD, hc]; rfl
  rw [fwGo, e, hr, if_neg hn, if_pos hl]
theorem fwGo_right (hc : out[k]? = some c) (hr : ruleAt rs sy q c = (p, mv, nx)) (hn : (p, mv, nx) ≠ noneR) (hl : (k : Int) + mv = out.length) : fwGo rs sy (f + 1) n q k out = ((nx, (k : Int), out.set k p), ((n + 1 : Nat) : Int), 2) := by
  have e : out.getD k 0 = c := by rw [List.getD_eq_getElem?_getD, hc]; rfl
  rw [fwGo, e, hr, if_neg hn, if_neg (by show ¬ (k : Int) + mv < 0; omega), if_pos hl]
theorem fwGo_on {k' : Nat} (hc : out[k]? = some c) (hr : ruleAt rs sy q c = (p, mv, nx)) (hn : (p, mv, nx) ≠ noneR) (hl : ¬ (k : Int) + mv = out.length) (hk : (k : Int) + mv = k') : fwGo rs sy (f + 1) n q k out = fwGo rs sy f (n + 1) nx k' (out.set k p) := by
  have e : out.getD k 0 = c := by rw [List.getD_eq_getElem?_getD, hc]; rfl
  rw [fwGo, e, hr, if_neg hn, if_neg (by show ¬ (k : Int) + mv < 0; omega), if_neg hl]
  simp only [hk, Int.toNat_natCast]
end
def fwT (G : (Int × Int × List Int) × Int × Int) : (Int × Int × List Int) × Int × Int × Int := (G.1, G.2.1, G.2.2, 0)
/-- what it gives back -/
def FwOut (R : (Int × Int × List Int) × Int × Int × Int) (w : World) (e : Ending) (w' : World) : Prop :=
  ∃ A n c, e = .returned (.tuple #[.agg #[.int .i64 R.1.1, .int .i64 R.1.2.1, .slice A n c], .int .i64 R.2.1, .int .i64 R.2.2.1, .int .i64 R.2.2.2]) ∧ WrS w' w.heap.size w'.heap.size [sgI A n R.1.2.2] ∧ n ≤ 1000000 ∧ Below w.heap.size w w'
theorem Wr.own {w : World} {lo hi n : Nat} {ad : Addr} {vs : List Value} (h : Wr w lo hi (some ad) n vs) : Wr w ad.block (ad.block + 1) (some ad) n vs :=
  ⟨h.1, fun hn => by obtain ⟨a, e, _, _, h3, hc⟩ := h.2 hn; injection e with e; subst e; exact ⟨ad, rfl, Nat.le_refl _, by omega, h3, hc⟩⟩
theorem FwOut.bad {w w' : World} (k : Int) (h : Below w.heap.size w w') : FwOut ((0, 0, []), 0, 0, k) w (.returned (.tuple #[.agg #[i64 0, i64 0, .slice none 0 0], i64 0, i64 0, i64 k])) w' := ⟨none, 0, 0, rfl, WrS.one (A := none) (n := 0) (vs := []) Wr.nil, by omega, h⟩
theorem partB_parts {sy st s a : Int} {xs : List Int} {m : Nat} (h : partB sy st s a xs = true) (hl : xs.length = m) : (0 ≤ s ∧ s ≤ st - 1) ∧ (1 ≤ m ∧ m ≤ 60) ∧ (0 ≤ a ∧ a ≤ (m : Int) - 1) ∧ ∀ x ∈ xs, 0 ≤ x ∧ x ≤ sy - 1 := by
  simp only [partB, Bool.and_eq_true, hl] at h
  have h2 := inB_t h.1.1.2
  exact ⟨inB_t h.1.1.1, by omega, inB_t h.1.2, allB_mem h.2⟩
/-- the result's box filled, at the end -/
theorem FwOut.fin {w w0 w2 : World} {g6 m cap : Nat} {ao : Addr} {q k x y z : Int} {out : List Int} {R : (Int × Int × List Int) × Int × Int × Int} (hR : R = ((q, k, out), x, y, z)) (hb0 : Below w.heap.size w w0) (hb : Below w0.heap.size w0 w2) (hg : g6 < w0.heap.size) (hg' : w.heap.size ≤ g6)
    (ha : w0.heap.size ≤ ao.block) (hW : Wr w2 ao.block (ao.block + 1) (some ao) m (out.map i64)) (hm : 0 < m) (hm' : m ≤ 1000000) {u0 u1 u2 : Value} :
    FwOut R w (.returned (.tuple #[.agg #[.int .i64 q, .int .i64 k, .slice (some ao) m cap], .int .i64 x, .int .i64 y, .int .i64 z])) (((w2.setCell ⟨g6, 0, none⟩ u0).setCell ⟨g6, 1, none⟩ u1).setCell ⟨g6, 2, none⟩ u2) := by
  subst hR
  have hz := hb.size
  have hz0 := hb0.size
  have hao : ao.block < w2.heap.size := by obtain ⟨a, v, e, _, _, h3, _⟩ := hW.at_ (k := 0) hm; injection e with e; subst e; exact h3
  refine ⟨some ao, m, cap, rfl, WrS.one ((((hW.set_far (.inl (by show g6 < _; omega)) _).set_far (.inl (by show g6 < _; omega)) _).set_far (.inl (by show g6 < _; omega)) _).wider (by omega) (by simp; omega)), hm', ?_⟩
  exact (((hb0.trans (hb.mono hz0)).setCell (by show _ ≤ g6; omega) _).setCell (by show _ ≤ g6; omega) _).setCell (by show _ ≤ g6; omega) _
theorem fwBox {w : World} {g : Nat} {t : TypeId} {a0 a1 a2 : Value} (h : Blk w g t #[a0, a1, a2]) (v0 v1 v2 : Value) : Blk (((w.setCell ⟨g, 0, none⟩ v0).setCell ⟨g, 1, none⟩ v1).setCell ⟨g, 2, none⟩ v2) g t #[v0, v1, v2] := by
  have := ((h.set_ 0 v0).set_ 1 v1).set_ 2 v2
  simpa using this
/-- the box of the walk, made -/
def FwCut (t : TypeId) (s an : Int) (m : Nat) (xs : List Int) (w2 : World) (v : Value) (wx : World) : Prop :=
  ∃ (g : Nat) (ao : Addr) (cap : Nat), v = .pointer (some ⟨g, 0, none⟩) ∧ Blk wx g t #[i64 s, i64 an, .slice (some ao) m cap] ∧ Wr wx ao.block (ao.block + 1) (some ao) m (xs.map i64) ∧ ao.block ≠ g ∧ w2.heap.size ≤ g ∧ w2.heap.size ≤ ao.block ∧ Below w2.heap.size w2 wx
theorem fwCut {t : TypeId} {s an : Int} {m g cap : Nat} {xs : List Int} {w2 wb : World} {ao : Addr} (hb : Blk (((wb.setCell ⟨g, 0, none⟩ (i64 s)).setCell ⟨g, 1, none⟩ (i64 an)).setCell ⟨g, 2, none⟩ (.slice (some ao) m cap)) g t #[i64 s, i64 an, .slice (some ao) m cap])
    (hW : Wr wb ao.block (ao.block + 1) (some ao) m (xs.map i64)) (hne : ao.block ≠ g) (hg : w2.heap.size ≤ g) (ha : w2.heap.size ≤ ao.block) (hB : Below w2.heap.size w2 wb) (_hm : 0 < m) :
    FwCut t s an m xs w2 (.pointer (some ⟨g, 0, none⟩)) (((wb.setCell ⟨g, 0, none⟩ (i64 s)).setCell ⟨g, 1, none⟩ (i64 an)).setCell ⟨g, 2, none⟩ (.slice (some ao) m cap)) := by
  refine ⟨g, ao, cap, rfl, hb, ?_, hne, hg, ha, ((hB.setCell (by exact hg) _).setCell (by exact hg) _).setCell (by exact hg) _⟩
  have hx : ∀ i, (⟨g, i, none⟩ : Addr).block < ao.block ∨ ao.block + 1 ≤ (⟨g, i, none⟩ : Addr).block := fun i => by show g < _ ∨ _ ≤ g; omega
  exact ((hW.set_far (hx 0) _).set_far (hx 1) _).set_far (hx 2) _
end Go.Proofs.Ytfahdgmlhinabaa
