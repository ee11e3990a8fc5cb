/-
  How the laws' arguments read: slices of whatever elements, structs of numbers and slices.
-/
import Derived.Test.YtdendllginlidaaGreatDoorOpen
import Derived.Test.YtdendllginlidaaGreatDoorSegX
import Derived.Deep.Slices
import Derived.Deep.Strs
import Derived.Lib.SmallJoins
namespace Go.Proofs.YtdendllginlidaaGreatDoor
open Go.ChangeShapes Go.WideShapes Go.ChangeAt Go.RowKit Go.Joins

theorem list_of {α : Type} {p : Nat → α → Prop} : ∀ (n : Nat), (∀ i, i < n → ∃ x, p i x) → ∃ xs : List α, xs.length = n ∧ ∀ i x, xs[i]? = some x → p i x
  | 0, _ => ⟨[], rfl, fun i x h => by simp at h⟩
  | n + 1, h => by
    obtain ⟨xs, hl, hx⟩ := list_of n (fun i hi => h i (by omega))
    obtain ⟨x, hp⟩ := h n (by omega)
    refine ⟨xs ++ [x], by simp [hl], fun i y hy => ?_⟩
    rcases Nat.lt_or_ge i n with hi | hi
    · rw [List.getElem?_append_left (by omega)] at hy; exact hx i y hy
    · rw [List.getElem?_append_right (by omega)] at hy
      have : i - xs.length = 0 := by
        have := (List.getElem?_eq_some_iff.1 hy).1
        simp at this; exact this
      rw [this] at hy
      simp at hy; subst hy
      rw [show i = n by omega]; exact hp

section
variable {H : Type} {enc : TypeId × Value → H} {W : World} {fuel base : Nat} {y : DataW H × List MemPlace} {v : Value} {d : DataW H} {p : List MemPlace}

/-- a slice of elements of k cells each -/
theorem open_rows {α : Type} (f : α → List Value) (k : Nat) (hk : 0 < k) (hf : ∀ x, (f x).length = k) (G : α → Prop) {t e : TypeId} (ht : Tryz.prog.underlying t = some (.slice e)) (hc : Tryz.prog.cellsOf e = k)
    (hel : ∀ n cs z, DataW.trod enc Tryz.prog W 0 (fun _ => true) true n e cs = some z → cs.length = k → ∃ x, cs = f x ∧ G x) {c : Value} (h : DataW.trod enc Tryz.prog W 0 (fun _ => true) true fuel t [c] = some y) :
    ∃ (A : Option Addr) (n cp : Nat) (xs : List α), c = .slice A n cp ∧ Rd W A (n * k) (xs.flatMap f) ∧ xs.length = n ∧ n ≤ 9223372036854775807 ∧ ∀ x ∈ xs, G x := by
  rcases Go.Deep.open_slice ht h with ⟨hcs, _⟩ | ⟨a, len, cap, m, n, D, Pl, hcs, _, hl, hm, hmm, _, hx⟩
  · injection hcs with hcs
    exact ⟨none, 0, 0, [], hcs, by rw [Nat.zero_mul]; exact Rd.nil, rfl, by omega, fun x hx => by cases hx⟩
  · injection hcs with hcs
    simp only [if_true] at hmm
    subst hmm
    rw [hc] at hx
    obtain ⟨xs, hxl, hxs⟩ := list_of (p := fun i x => (∀ j, j < k → W.cell? (a.add (i * k + j)) = (f x)[j]?) ∧ G x) len (fun i hi => by
      obtain ⟨cs', h1, h2⟩ := hx i (by omega)
      obtain ⟨_, hlen, hcell⟩ := World.cells?_some h1
      obtain ⟨x, e, hg⟩ := hel _ _ _ h2 hlen
      refine ⟨x, fun j hj => ?_, hg⟩
      rw [← add_add, hcell j hj, e])
    unfold maxLen at hm
    refine ⟨some a, len, m, xs, hcs, ⟨by rw [flatX_len f k hf, hxl], fun h0 => ⟨a, rfl, ?_, fun j u hj => ?_⟩⟩, hxl, by omega, fun x hx => ?_⟩
    · have hl0 : 0 < len := by
        rcases Nat.eq_zero_or_pos len with h | h
        · rw [h, Nat.zero_mul] at h0; omega
        · exact h
      have hx0 : xs[0]? = some xs[0] := List.getElem?_eq_getElem (by omega)
      have := (hxs 0 _ hx0).1 0 hk
      rw [List.getElem?_eq_getElem (by rw [hf]; exact hk)] at this
      have := World.block_lt_of_cell? W _ this
      rwa [block_add] at this
    · have hjl : j < len * k := by
        have := (List.getElem?_eq_some_iff.1 hj).1
        rwa [flatX_len f k hf, hxl] at this
      have hq : j / k < len := Nat.div_lt_of_lt_mul (by rwa [Nat.mul_comm])
      have hxq : xs[j / k]? = some xs[j / k] := List.getElem?_eq_getElem (by omega)
      have hjm : j % k < k := Nat.mod_lt _ hk
      have e : j = j / k * k + j % k := by rw [Nat.mul_comm]; exact (Nat.div_add_mod j k).symm
      rw [e, flatX_at f k hf xs (j / k) (j % k) _ hxq hjm] at hj
      rw [e, (hxs _ _ hxq).1 _ hjm]
      exact hj
    · obtain ⟨i, hi⟩ := List.mem_iff_getElem?.1 hx
      exact (hxs i x hi).2

set_option maxRecDepth 100000 in
theorem trod_RuleS {c : Value} (h : DataW.trod enc Tryz.prog W 0 (fun _ => true) true fuel 22 [c] = some y) :
    ∃ A n cp xs, c = .slice A n cp ∧ Rd3 W A n xs ∧ n ≤ 9223372036854775807 ∧ ∀ x ∈ xs, i64ok x.1 ∧ i64ok x.2.1 ∧ i64ok x.2.2 := by
  obtain ⟨A, n, cp, xs, e, hr, _, hn, hg⟩ := open_rows enc3 3 (by omega) enc3_len (fun x => i64ok x.1 ∧ i64ok x.2.1 ∧ i64ok x.2.2) Tryz.underlying22 (by kernel_rfl) (fun n cs z hz hl => by
    obtain ⟨y0, y1, y2, m, _, _, h0, h1, h2⟩ := Go.Deep.trod_struct3 Tryz.underlying85 hz
    match cs, hl with
    | [c0, c1, c2], _ =>
      have k1 : Tryz.prog.cellsOf 2 = 1 := by kernel_rfl
      simp [k1] at h0 h1 h2
      obtain ⟨a, rfl, ha⟩ := trod_I64 h0
      obtain ⟨b, rfl, hb⟩ := trod_I64 h1
      obtain ⟨c, rfl, hc⟩ := trod_I64 h2
      exact ⟨(a, b, c), rfl, ha, hb, hc⟩) h
  exact ⟨A, n, cp, xs, e, hr, hn, hg⟩
set_option maxRecDepth 100000 in
theorem open_Machine (hv : Value.okWide Tryz.prog W .any base 24 v) (h : DataW.Trod enc Tryz.prog W 0 (fun _ => true) true 24 v d p) :
    ∃ sy st A n cp xs, v = .agg #[.int .i64 sy, .int .i64 st, .slice A n cp] ∧ RdS W [sgX enc3 3 A n xs] ∧ n ≤ 9223372036854775807 ∧ i64ok sy ∧ i64ok st ∧ ∀ x ∈ xs, i64ok x.1 ∧ i64ok x.2.1 ∧ i64ok x.2.2 := by
  obtain ⟨c0, c1, c2, y0, y1, y2, m, rfl, rfl, rfl, hy0, hy1, hy2⟩ := open_agg3 Tryz.underlying24 (by kernel_rfl) (by kernel_rfl) hv h
  obtain ⟨sy, rfl, hsy⟩ := trod_I64 hy0
  obtain ⟨st, rfl, hst⟩ := trod_I64 hy1
  obtain ⟨A, n, cp, xs, rfl, hr, hn, hx⟩ := trod_RuleS hy2
  exact ⟨sy, st, A, n, cp, xs, rfl, RdS.one hr, hn, hsy, hst, hx⟩
end
end Go.Proofs.YtdendllginlidaaGreatDoor
