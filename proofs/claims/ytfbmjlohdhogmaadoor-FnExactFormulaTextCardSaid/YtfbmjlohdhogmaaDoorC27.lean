/-
  Contracts of chapter 27 (bouncers): shifting over a word; copies of a word.
-/
import Derived.Test.YtfbmjlohdhogmaaDoorC03
import Derived.Test.YtfbmjlohdhogmaaDoorC05b
import Derived.Test.YtfbmjlohdhogmaaDoorApp
namespace Go.Proofs.YtfbmjlohdhogmaaDoor
open Go.RowKit

/-- the rule for a state and a symbol -/
def ruleAt (rs : List Rule3) (sy q c : Int) : Rule3 := rs.getD (q * sy + c).toNat noneR
/-- f: steps that may still be made; n: steps made -/
def shGo (rs : List Rule3) (sy state side : Int) : Nat → Nat → Int → Nat → List Int → (List Int × Int) × Int
  | 0, _, _, _, _ => (([], 0), 3)
  | f + 1, n, now, k, out =>
    if ruleAt rs sy now (out.getD k 0) = noneR then (([], 0), 6)
    else if (k : Int) + (ruleAt rs sy now (out.getD k 0)).2.1 < 0 ∨ (k : Int) + (ruleAt rs sy now (out.getD k 0)).2.1 = out.length then
      if (ruleAt rs sy now (out.getD k 0)).2.2 = state ∧ (ruleAt rs sy now (out.getD k 0)).2.1 = side then ((out.set k (ruleAt rs sy now (out.getD k 0)).1, (n + 1 : Nat)), 0) else (([], 0), 3)
    else shGo rs sy state side f (n + 1) (ruleAt rs sy now (out.getD k 0)).2.2 ((k : Int) + (ruleAt rs sy now (out.getD k 0)).2.1).toNat (out.set k (ruleAt rs sy now (out.getD k 0)).1)
def shStart (side : Int) (n : Nat) : Nat := if side = -1 then n - 1 else 0
def shiftR (sy st : Int) (rs : List Rule3) (state : Int) (ws : List Int) (side : Int) : (List Int × Int) × Int :=
  if !machB sy st rs || !wordB ws || decide (ws = []) then (([], 0), 1)
  else if !inB state 0 (st - 1) || !allB 0 (sy - 1) ws || !(decide (side = 1) || decide (side = -1)) then (([], 0), 2)
  else shGo rs sy state side 200 0 state (shStart side ws.length) ws

theorem inB_iff {n lo hi : Int} : inB n lo hi = true ↔ lo ≤ n ∧ n ≤ hi := by simp [inB]
section
variable {rs : List Rule3} {sy st state side q c p mv nx : Int} {f n k : Nat} {out : List Int}
theorem rule_find (hm : machB sy st rs = true) (hq : 0 ≤ q ∧ q ≤ st - 1) (hc : 0 ≤ c ∧ c ≤ sy - 1) :
    ∃ (j : Nat) (x : Rule3), q * sy + c = (j : Int) ∧ 0 ≤ q * sy ∧ q * sy ≤ 6000 ∧ rs[j]? = some x ∧ ruleAt rs sy q c = x ∧ (x = noneR ∨ (x ≠ noneR ∧ (0 ≤ x.1 ∧ x.1 ≤ sy - 1) ∧ (x.2.1 = 1 ∨ x.2.1 = -1) ∧ (0 ≤ x.2.2 ∧ x.2.2 ≤ st - 1))) := by
  simp only [machB, Bool.and_eq_true, inB_iff, beq_iff_eq, List.all_eq_true] at hm
  obtain ⟨⟨⟨h1, h2⟩, h3⟩, h4⟩ := hm
  have a := Int.mul_nonneg hq.1 (show 0 ≤ sy by omega)
  have b := Int.mul_le_mul_of_nonneg_right hq.2 (show 0 ≤ sy by omega)
  rw [Int.sub_mul] at b
  have e := mul_bd2 h1 h2
  obtain ⟨j, hj⟩ := Int.eq_ofNat_of_zero_le (show 0 ≤ q * sy + c by omega)
  have hlt : j < rs.length := by omega
  refine ⟨j, rs[j], hj, a, by omega, List.getElem?_eq_getElem hlt, ?_, ?_⟩
  · rw [ruleAt, hj, Int.toNat_natCast, List.getD_eq_getElem?_getD, List.getElem?_eq_getElem hlt]; rfl
  · have := h4 _ (List.getElem_mem hlt)
    by_cases hn : rs[j] = noneR
    · exact .inl hn
    · simp only [ruleB, hn, decide_false, Bool.false_or, Bool.and_eq_true, inB_iff, Bool.or_eq_true, beq_iff_eq] at this
      exact .inr ⟨hn, this.1.1, this.1.2, this.2⟩
theorem shGo_none (hc : out[k]? = some c) (hr : ruleAt rs sy q c = noneR) : shGo rs sy state side (f + 1) n q k out = (([], 0), 6) := by
  rw [shGo, show out.getD k 0 = c by rw [List.getD_eq_getElem?_getD, hc]; rfl, if_pos hr]
theorem shGo_out (hc : out[k]? = some c) (hr : ruleAt rs sy q c = (p, mv, nx)) (hn : (p, mv, nx) ≠ noneR) (hl : (k : Int) + mv < 0 ∨ (k : Int) + mv = out.length) :
    shGo rs sy state side (f + 1) n q k out = if nx = state ∧ mv = side then ((out.set k p, ((n + 1 : Nat) : Int)), 0) else (([], 0), 3) := by
  rw [shGo, show out.getD k 0 = c by rw [List.getD_eq_getElem?_getD, hc]; rfl, hr, if_neg hn, if_pos hl]
theorem shGo_on (hc : out[k]? = some c) (hr : ruleAt rs sy q c = (p, mv, nx)) (hn : (p, mv, nx) ≠ noneR) (hl : ¬ ((k : Int) + mv < 0 ∨ (k : Int) + mv = out.length)) {k' : Nat} (hk : (k : Int) + mv = k') :
    shGo rs sy state side (f + 1) n q k out = shGo rs sy state side f (n + 1) nx k' (out.set k p) := by
  rw [shGo, show out.getD k 0 = c by rw [List.getD_eq_getElem?_getD, hc]; rfl, hr, if_neg hn, if_neg hl]
  simp only [hk, Int.toNat_natCast]
theorem set_in (h : ∀ x ∈ out, 0 ≤ x ∧ x ≤ sy - 1) (hp : 0 ≤ p ∧ p ≤ sy - 1) : ∀ x ∈ out.set k p, 0 ≤ x ∧ x ≤ sy - 1 := by
  intro x hx
  rcases List.mem_or_eq_of_mem_set hx with h1 | rfl
  · exact h x h1
  · exact hp
end


/-- what a shift gives back -/
def ShOut (r : (List Int × Int) × Int) (w : World) (e : Ending) (w' : World) : Prop :=
  ∃ A n c, e = .returned (.tuple #[.slice A n c, .int .i64 r.1.2, .int .i64 r.2]) ∧ Wr w' w.heap.size w'.heap.size A n (r.1.1.map i64) ∧ n ≤ 1000000 ∧ Below w.heap.size w w'
theorem ShOut.bad {w w' : World} (k : Int) (h : Below w.heap.size w w') : ShOut (([], 0), k) w (.returned (.tuple #[.slice none 0 0, .int .i64 0, .int .i64 k])) w' := ⟨none, 0, 0, rfl, Wr.nil, by omega, h⟩

end Go.Proofs.YtfbmjlohdhogmaaDoor
