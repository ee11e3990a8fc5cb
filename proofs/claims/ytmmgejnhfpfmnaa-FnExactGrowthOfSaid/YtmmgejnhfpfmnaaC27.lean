/-
  Contracts of chapter 27 (bouncers): shifting over a word; copies of a word.
-/
import Derived.Test.YtmmgejnhfpfmnaaC03
import Derived.Test.YtmmgejnhfpfmnaaC05b
import Derived.Test.YtmmgejnhfpfmnaaApp
namespace Go.Proofs.Ytmmgejnhfpfmnaa
open Go.RowKit

/-- the rule for a state and a symbol -/
def ruleAt (rs : List Rule3) (sy q c : Int) : Rule3 := rs.getD (q * sy + c).toNat noneR
/-- f: steps that may still be made; n: steps made -/
def shGo (rs : List Rule3) (sy state side : Int) : Nat → Nat → Int → Nat → List Int → (List Int × Int) × Int
  | 0, _, _, _, _ => (([], 0), 3)
  | f + 1, n, now, k, out =>
    if ruleAt rs sy now (out.getD k 0) = noneR then (([], 0), 6)
    else if (k : Int) + (ruleAt rs sy now (out.getD k 0)).2.1 < 0 ∨ (k : Int) + (ruleAt rs sy now (out.getD k 0)).2.1 = out.length then
      if (ruleAt rs sy now (out.getD k 0)).2.2 = state ∧ (ruleAt rs sy now (out.getD k 0)).2.1 = side then ((out.set k (ruleAt rs sy now (out.getD k 0)).1, (n + 1 : Nat)), 0) else (([], 0), 3)
    else shGo rs sy state side f (n + 1) (ruleAt rs sy now (out.getD k 0)).2.2 ((k : Int) + (ruleAt rs sy now (out.getD k 0)).2.1).toNat (out.set k (ruleAt rs sy now (out.getD k 0)).1)
def shStart (side : Int) (n : Nat) : Nat := if side = -1 then n - 1 else 0
def shiftR (sy st : Int) (rs : List Rule3) (state : Int) (ws : List Int) (side : Int) : (List Int × Int) × Int :=
  if !machB sy st rs || !wordB ws || decide (ws = []) then (([], 0), 1)
  else if !inB state 0 (st - 1) || !allB 0 (sy - 1) ws || !(decide (side = 1) || decide (side = -1)) then (([], 0), 2)
  else shGo rs sy state side 200 0 state (shStart side ws.length) ws

theorem inB_iff {n lo hi : Int} : inB n lo hi = true ↔ lo ≤ n ∧ n ≤ hi := by simp [inB]
section
variable {rs : List Rule3} {sy st state side q c p mv nx : Int} {f n k : Nat} {out : List Int}
theorem rule_find (hm : machB sy st rs = true) (hq : 0 ≤ q ∧ q ≤ st - 1) (hc : 0 ≤ c ∧ c ≤ sy - 1) :
    ∃ (j : Nat) (x : Rule3), q * sy + c = (j : Int) ∧ 0 ≤ q * sy ∧ q * sy ≤ 6000 ∧ rs[j]? = some x ∧ ruleAt rs sy q c = x ∧ (x = noneR ∨ (x ≠ noneR ∧ (0 ≤ x.1 ∧ x.1 ≤ sy - 1) ∧ (x.2.1 = 1 ∨ x.2.1 = -1) ∧ (0 ≤ x.2.2 ∧ x.2.2 ≤ st - 1))) := by
  simp only [machB, Bool.and_eq_true, inB_iff, beq_iff_eq, List.all_eq_true] at hm
  obtain ⟨⟨⟨h1, h2⟩, h3⟩, h4⟩ := hm
  have a := Int.mul_nonneg hq.1 (show 0 ≤ sy by omega)
  have b := Int.mul_le_mul_of_nonneg_right hq.2 (show 0 ≤ sy by omega)
  rw [Int.sub_mul] at b
  have e := mul_bd2 h1 h2
  obtain ⟨j, hj⟩ := Int.eq_ofNat_of_zero_le (show 0 ≤ q * sy + c by omega)
  have hlt : j < rs.length := by omega
  refine ⟨j, rs[j], hj, a, by omega, List.getElem?_eq_getElem hlt, ?_, ?_⟩
  · rw [ruleAt, hj, Int.toNat_natCast, List.getD_eq_getElem?_getD, List.getElem?_eq_getElem hlt]; rfl
  · have := h4 _ (List.getElem_mem hlt)
    by_cases hn : rs[j] = noneR
    · exact .inl hn
    · simp only [ruleB, hn, decide_false, Bool.false_or, Bool.and_eq_true, inB_iff, Bool.or_eq_true, beq_iff_eq] at this
      exact .inr ⟨hn, this.1.1, this.1.2, this.2⟩
theorem shGo_none (hc : out[k]? = some c) (hr : ruleAt rs sy q c = noneR) : shGo rs sy state side (f + 1) n q k out = (([], 0), 6) := by
  rw [shGo, show out.getD k 0 = c by rw [List.getD_eq_getElem?_getD, hc]; rfl, if_pos hr]
theorem shGo_out (hc : out[k]? = some c) (hr : ruleAt rs sy q c = (p, mv, nx)) (hn : (p, mv, nx) ≠ noneR) (hl : (k : Int) + mv < 0 ∨ (k : Int) + mv = out.length) :
    shGo rs sy state side (f + 1) n q k out = if nx = state ∧ mv = side then ((out.set k p, ((n + 1 : Nat) : Int)), 0) else (([], 0), 3) := by
  rw [shGo, show out.getD k 0 = c by rw [List.getD_eq_getElem?_getD, hc]; rfl, hr, if_neg hn, if_pos hl]
theorem shGo_on (hc : out[k]? = some c) (hr : ruleAt rs sy q c = (p, mv, nx)) (hn : (p, mv, nx) ≠ noneR) (hl : ¬ ((k : Int) + mv < 0 ∨ (k : Int) + mv = out.length)) {k' : Nat} (hk : (k : Int) + mv = k') :
    shGo rs sy state side (f + 1) n q k out = shGo rs sy state side f (n + 1) nx k' (out.set k p) := by
  rw [shGo, show out.getD k 0 = c by rw [List.getD_eq_getElem?_getD, hc]; rfl, hr, if_neg hn, if_neg hl]
  simp only [hk, Int.toNat_natCast]
theorem set_in (h : ∀ x ∈ out, 0 ≤ x ∧ x ≤ sy - 1) (hp : 0 ≤ p ∧ p ≤ sy - 1) : ∀ x ∈ out.set k p, 0 ≤ x ∧ x ≤ sy - 1 := by
  intro x hx
  rcases List.mem_or_eq_of_mem_set hx with h1 | rfl
  · exact h x h1
  · exact hp
end

theorem l00Own_c (A : Option Addr) (n c : Nat) (ws : List Int) (w : World) (h : RdI w A n ws) (h0 : 0 < n) (hn : n ≤ 1000000) :
    Calls Try.prog 80 #[.slice A n c] w fun e w' => ∃ ao cap, e = .returned (.slice (some ao) n cap) ∧ Wr w' w.heap.size w'.heap.size (some ao) n (ws.map i64) ∧ Below w.heap.size w w' := by
  obtain ⟨hl, hc⟩ := h
  obtain ⟨ad, rfl, hab, hcs⟩ := hc h0
  have HL := Lib.hid hl
  have HC := Lib.hid (show ∀ j u, (ws.map i64)[j]? = some u → (w.alloc (.cells #[] 2)).cell? (ad.add j) = some u from fun j u hj => keepa _ (hcs j u hj))
  clear hl hc hcs
  go_enter Try.func80, Try.ntmps80
  go_wp2_with (at_builtin; refine wp_app (by rfl) _ _ 25 2 (.int .i64 0) 1 8 (by rfl) Try.underlying25 info_i64 rfl (by omega) w.heap.size (some ⟨w.heap.size, 0, none⟩) 0 0 [] (by rfl) (by exact Own.lit (Nat.le_refl _)) ad n c (ws.map i64) (by rfl) h0 (by rw [HL.out, Nat.mul_one]) (by exact HC.out) (by intro u hu; obtain ⟨y, _, rfl⟩ := List.mem_map.1 hu; rfl) (by omega) (by omega) (by simp) ?_; intro g' cap w2 own2 hb2 hk2 hg2 hz2)
  rw [Nat.zero_add, List.nil_append] at own2
  have O2 := Lib.hid own2; have B2 := Lib.hid ((below_size.alloc (Nat.le_refl _) (.cells #[] 2)).trans hb2)
  clear own2 hb2 hk2 hg2 hz2
  go_wp2_with fail
  go_ret
  exact ⟨⟨g', 0, none⟩, cap, by simp, O2.out.wr, B2.out⟩
set_option maxRecDepth 100000 in
theorem cloneI_c (A : Option Addr) (n c : Nat) (ws : List Int) (w : World) (h : RdI w A n ws) (h0 : 0 < n) (hn : n ≤ 1000000) :
    Calls Try.prog 62 #[.slice A n c] w fun e w' => ∃ ao cap, e = .returned (.slice (some ao) n cap) ∧ Wr w' w.heap.size w'.heap.size (some ao) n (ws.map i64) ∧ Below w.heap.size w w' := by
  obtain ⟨hl, hc⟩ := h
  obtain ⟨ad, rfl, hab, hcs⟩ := hc h0
  have HL := Lib.hid hl
  have HC := Lib.hid (show ∀ j u, (ws.map i64)[j]? = some u → (w.alloc (.cells #[] 2)).cell? (ad.add j) = some u from fun j u hj => keepa _ (hcs j u hj))
  clear hl hc hcs
  have he : ∀ w, (binOp BinOp.eql 25 (Value.slice (some ad) n c) (Value.slice none 0 0)).run Try.prog w = .ok (.bool false) w := fun w => by kernel_rfl
  go_enter Try.func62, Try.ntmps62
  go_wp2_with (at_builtin; refine wp_app (by rfl) _ _ 25 2 (.int .i64 0) 1 8 (by rfl) Try.underlying25 info_i64 rfl (by omega) w.heap.size (some ⟨w.heap.size, 0, none⟩) 0 0 [] (by rfl) (by exact Own.lit (Nat.le_refl _)) ad n c (ws.map i64) (by rfl) h0 (by rw [HL.out, Nat.mul_one]) (by exact HC.out) (by intro u hu; obtain ⟨y, _, rfl⟩ := List.mem_map.1 hu; rfl) (by omega) (by omega) (by simp) ?_; intro g' cap w2 own2 hb2 hk2 hg2 hz2)
  rw [Nat.zero_add, List.nil_append] at own2
  have O2 := Lib.hid own2; have B2 := Lib.hid ((below_size.alloc (Nat.le_refl _) (.cells #[] 2)).trans hb2)
  clear own2 hb2 hk2 hg2 hz2
  go_wp2_with fail
  go_ret
  exact ⟨⟨g', 0, none⟩, cap, by simp, O2.out.wr, B2.out⟩

/-- what a shift gives back -/
def ShOut (r : (List Int × Int) × Int) (w : World) (e : Ending) (w' : World) : Prop :=
  ∃ A n c, e = .returned (.tuple #[.slice A n c, .int .i64 r.1.2, .int .i64 r.2]) ∧ Wr w' w.heap.size w'.heap.size A n (r.1.1.map i64) ∧ n ≤ 1000000 ∧ Below w.heap.size w w'
theorem ShOut.bad {w w' : World} (k : Int) (h : Below w.heap.size w w') : ShOut (([], 0), k) w (.returned (.tuple #[.slice none 0 0, .int .i64 0, .int .i64 k])) w' := ⟨none, 0, 0, rfl, Wr.nil, by omega, h⟩

end Go.Proofs.Ytmmgejnhfpfmnaa
