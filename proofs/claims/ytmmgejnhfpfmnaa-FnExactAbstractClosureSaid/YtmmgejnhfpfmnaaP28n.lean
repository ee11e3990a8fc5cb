/-
  Plain Lean: the abstractions that are reached, their numbers, and the table of those that were seen. Nothing of the program.
-/
import Derived.Test.YtmmgejnhfpfmnaaC27
import Derived.Test.YtmmgejnhfpfmnaaC28c
namespace Go.Proofs.Ytmmgejnhfpfmnaa
open Go.RowKit

abbrev Nd := Int × Int × Int × Int
def ndL (y : Nd) : List Int := [y.1, y.2.1, y.2.2.1, y.2.2.2]
theorem ndL_inj {x y : Nd} (h : ndL x = ndL y) : x = y := by
  obtain ⟨a, b, c, d⟩ := x
  obtain ⟨a', b', c', d'⟩ := y
  simp only [ndL, List.cons.injEq, and_true] at h
  obtain ⟨rfl, rfl, rfl, rfl⟩ := h
  rfl
/-- the states from which a symbol leads to a state, with the symbol -/
def orig (sy to : Int) : Nat → List Int → List (Int × Int)
  | _, [] => []
  | i, v :: l => if v = to then ((i : Int) / sy, (i : Int) % sy) :: orig sy to (i + 1) l else orig sy to (i + 1) l
theorem orig_mem {sy to : Int} : ∀ (l : List Int) (i : Nat), ∀ p ∈ orig sy to i l, ∃ k : Nat, k < i + l.length ∧ p = ((k : Int) / sy, (k : Int) % sy)
  | [], i => fun p hp => by cases hp
  | v :: l, i => fun p hp => by
    have h2 := orig_mem (sy := sy) (to := to) l (i + 1) p
    rw [orig] at hp
    split at hp
    · rcases List.mem_cons.1 hp with rfl | hp
      · exact ⟨i, by simp, rfl⟩
      · obtain ⟨k, h, e⟩ := h2 hp; exact ⟨k, by simp; omega, e⟩
    · obtain ⟨k, h, e⟩ := h2 hp; exact ⟨k, by simp; omega, e⟩
theorem orig_len {sy to : Int} : ∀ (l : List Int) (i : Nat), (orig sy to i l).length ≤ l.length
  | [], i => Nat.le_refl _
  | v :: l, i => by
    have := orig_len (sy := sy) (to := to) l (i + 1)
    rw [orig]
    split <;> simp <;> omega
/-- what a rule makes of an abstraction -/
def stepsR (sy : Int) (xl xr : List Int) (r : Rule3) (x : Nd) : List Nd :=
  if r = noneR then []
  else if r.2.1 = 1 then (orig sy x.2.2.2 0 xr).map fun p => (nextOf xl (x.1 * sy + r.1), r.2.2, p.2, p.1)
  else (orig sy x.1 0 xl).map fun p => (p.1, r.2.2, p.2, nextOf xr (x.2.2.2 * sy + r.1))
def stepsN (rs : List Rule3) (sy : Int) (xl xr : List Int) (x : Nd) : List Nd := stepsR sy xl xr (ruleAt rs sy x.2.1 x.2.2.1) x
def addN (l : List Nd) (y : Nd) : List Nd := if y ∈ l then l else l ++ [y]
def okN (rs : List Rule3) (sy : Int) (x : Nd) : Bool := !decide (ruleAt rs sy x.2.1 x.2.2.1 = noneR)
/-- the search: f: rounds that may still be made; k: the abstraction that is next -/
def clGo (rs : List Rule3) (sy : Int) (xl xr : List Int) : Nat → Nat → List Nd → Option (List Nd)
  | 0, _, _ => none
  | f + 1, k, l => match l[k]? with
    | none => some l
    | some x => if 3000 < ((stepsN rs sy xl xr x).foldl addN l).length then none else clGo rs sy xl xr f (k + 1) ((stepsN rs sy xl xr x).foldl addN l)
def clR (rs : List Rule3) (sy : Int) (xl xr : List Int) : Option (List Nd) := clGo rs sy xl xr 3001 0 [(0, 0, 0, 0)]
theorem clGo_end {rs : List Rule3} {sy : Int} {xl xr : List Int} {f k : Nat} {l : List Nd} (h : l.length ≤ k) : clGo rs sy xl xr (f + 1) k l = some l := by
  rw [clGo, List.getElem?_eq_none h]
theorem clGo_full {rs : List Rule3} {sy : Int} {xl xr : List Int} {f k : Nat} {l : List Nd} {x : Nd} (h : l[k]? = some x) (hf : 3000 < ((stepsN rs sy xl xr x).foldl addN l).length) : clGo rs sy xl xr (f + 1) k l = none := by
  rw [clGo, h]; exact if_pos hf
theorem clGo_on {rs : List Rule3} {sy : Int} {xl xr : List Int} {f k : Nat} {l : List Nd} {x : Nd} (h : l[k]? = some x) (hf : ¬ 3000 < ((stepsN rs sy xl xr x).foldl addN l).length) : clGo rs sy xl xr (f + 1) k l = clGo rs sy xl xr f (k + 1) ((stepsN rs sy xl xr x).foldl addN l) := by
  rw [clGo, h]; exact if_neg hf
theorem addN_pre (l : List Nd) (y : Nd) : ∃ t, addN l y = l ++ t := by
  unfold addN; split
  · exact ⟨[], by simp⟩
  · exact ⟨[y], rfl⟩
theorem fold_pre : ∀ (ys l : List Nd), ∃ t, ys.foldl addN l = l ++ t
  | [], l => ⟨[], by simp⟩
  | y :: ys, l => by
    obtain ⟨t, ht⟩ := addN_pre l y
    obtain ⟨t', ht'⟩ := fold_pre ys (addN l y)
    exact ⟨t ++ t', by rw [List.foldl_cons, ht', ht, List.append_assoc]⟩
theorem fold_len (ys l : List Nd) : l.length ≤ (ys.foldl addN l).length ∧ (ys.foldl addN l).length ≤ l.length + ys.length := by
  constructor
  · obtain ⟨t, ht⟩ := fold_pre ys l; rw [ht]; simp
  · induction ys generalizing l with
    | nil => simp
    | cons y ys ih =>
      have h1 := ih (addN l y)
      have h2 : (addN l y).length ≤ l.length + 1 := by unfold addN; split <;> simp
      rw [List.foldl_cons, List.length_cons]; omega
theorem take_all {l t : List Nd} {p : Nd → Bool} {k : Nat} (hk : k ≤ l.length) : ((l ++ t).take k).all p = (l.take k).all p := by rw [List.take_append_of_le_length hk]
theorem addN_mem {l : List Nd} {y z : Nd} : z ∈ addN l y ↔ z ∈ l ∨ z = y := by
  unfold addN; split
  · rename_i h
    exact ⟨.inl, fun hz => hz.elim id (fun e => e ▸ h)⟩
  · simp
/-- within the ranges -/
structure NdOk (sl st sy sr : Int) (y : Nd) : Prop where
  a : 0 ≤ y.1 ∧ y.1 < sl
  b : 0 ≤ y.2.1 ∧ y.2.1 < st
  c : 0 ≤ y.2.2.1 ∧ y.2.2.1 < sy
  d : 0 ≤ y.2.2.2 ∧ y.2.2.2 < sr
theorem fold_ok {sl st sy sr : Int} (ys : List Nd) (hy : ∀ y ∈ ys, NdOk sl st sy sr y) : ∀ l : List Nd, (∀ y ∈ l, NdOk sl st sy sr y) → ∀ y ∈ ys.foldl addN l, NdOk sl st sy sr y := by
  induction ys with
  | nil => exact fun l h => h
  | cons z ys ih =>
    intro l h
    refine ih (fun y h1 => hy y (by simp [h1])) (addN l z) (fun y h1 => ?_)
    rcases addN_mem.1 h1 with h1 | rfl
    · exact h y h1
    · exact hy _ (by simp)
theorem divmod_lt {k n sy : Int} (hsy : 0 < sy) (h0 : 0 ≤ k) (h : k < n * sy) : (0 ≤ k / sy ∧ k / sy < n) ∧ 0 ≤ k % sy ∧ k % sy < sy :=
  ⟨⟨Int.ediv_nonneg h0 (by omega), Int.ediv_lt_of_lt_mul hsy h⟩, Int.emod_nonneg _ (by omega), Int.emod_lt_of_pos _ hsy⟩
theorem idx_lt {a b n sy : Int} (ha : 0 ≤ a ∧ a < n) (hb : 0 ≤ b ∧ b < sy) : 0 ≤ a * sy ∧ 0 ≤ a * sy + b ∧ a * sy + b < n * sy := by
  have h1 : 0 ≤ a * sy := Int.mul_nonneg ha.1 (by omega)
  have h2 : (a + 1) * sy ≤ n * sy := Int.mul_le_mul_of_nonneg_right (by omega) (by omega)
  rw [Int.add_mul] at h2
  omega
theorem nextOf_in {sl sy : Int} {xs : List Int} (h : DfaOk sl sy xs) {k : Int} (h0 : 0 ≤ k) (h1 : k < sl * sy) : 0 ≤ nextOf xs k ∧ nextOf xs k < sl := by
  obtain ⟨n, rfl⟩ := Int.eq_ofNat_of_zero_le h0
  have hl := h.len
  have hn : n < xs.length := by omega
  have hx := List.getElem?_eq_getElem hn
  rw [nextOf_at hx]
  have := h.all _ (List.mem_of_getElem? hx)
  omega
theorem mach_rules {sy st : Int} {rs : List Rule3} (hm : machB sy st rs = true) {q c : Int} (hq : 0 ≤ q ∧ q < st) (hc : 0 ≤ c ∧ c < sy) (hn : ruleAt rs sy q c ≠ noneR) :
    (0 ≤ (ruleAt rs sy q c).1 ∧ (ruleAt rs sy q c).1 < sy) ∧ ((ruleAt rs sy q c).2.1 = 1 ∨ (ruleAt rs sy q c).2.1 = -1) ∧ (0 ≤ (ruleAt rs sy q c).2.2 ∧ (ruleAt rs sy q c).2.2 < st) := by
  simp only [machB, Bool.and_eq_true, List.all_eq_true, beq_iff_eq] at hm
  have hi := idx_lt hq hc
  obtain ⟨n, hnn⟩ := Int.eq_ofNat_of_zero_le hi.2.1
  have hl : (rs.length : Int) = st * sy := by rw [hm.1.2, Int.mul_comm]
  have hlt : n < rs.length := by omega
  have hx := List.getElem?_eq_getElem hlt
  have e : ruleAt rs sy q c = rs[n] := by unfold ruleAt; rw [hnn, Int.toNat_natCast, List.getD_eq_getElem?_getD, hx]; rfl
  rw [e] at hn ⊢
  have := hm.2 _ (List.mem_of_getElem? hx)
  generalize rs[n] = r at *
  obtain ⟨x, y, z⟩ := r
  simp only [ruleB, hn, decide_false, Bool.false_or, Bool.and_eq_true, inB_iff, Bool.or_eq_true, beq_iff_eq] at this
  dsimp only at this ⊢
  exact ⟨by omega, this.1.2, by omega⟩
theorem stepsN_ok {sl st sy sr : Int} {rs : List Rule3} {xl xr : List Int} {x : Nd} (hm : machB sy st rs = true) (hl : DfaOk sl sy xl) (hr : DfaOk sr sy xr) (hx : NdOk sl st sy sr x) : ∀ y ∈ stepsN rs sy xl xr x, NdOk sl st sy sr y := by
  intro y hy
  unfold stepsN stepsR at hy
  split at hy
  · cases hy
  · rename_i hn
    obtain ⟨h1, h2, h3⟩ := mach_rules hm hx.b hx.c hn
    have hsy : 0 < sy := by have := hx.c; omega
    have hll := hl.len; have hrl := hr.len
    split at hy
    all_goals
      obtain ⟨p, hp, rfl⟩ := List.mem_map.1 hy
      obtain ⟨k, hk, rfl⟩ := orig_mem _ _ p hp
      rw [Nat.zero_add] at hk
    · have hd := divmod_lt (n := sr) hsy (show (0 : Int) ≤ k by omega) (by omega)
      have hi := idx_lt hx.a h1
      exact ⟨nextOf_in hl hi.2.1 hi.2.2, h3, hd.2, hd.1⟩
    · have hd := divmod_lt (n := sl) hsy (show (0 : Int) ≤ k by omega) (by omega)
      have hi := idx_lt hx.d h1
      exact ⟨hd.1, h3, hd.2, nextOf_in hr hi.2.1 hi.2.2⟩
theorem stepsN_len {rs : List Rule3} {sy : Int} {xl xr : List Int} {x : Nd} (hl : xl.length ≤ 120) (hr : xr.length ≤ 120) : (stepsN rs sy xl xr x).length ≤ 120 := by
  unfold stepsN stepsR
  split
  · simp
  · split
    · rw [List.length_map]; exact Nat.le_trans (orig_len _ _) hr
    · rw [List.length_map]; exact Nat.le_trans (orig_len _ _) hl
/-! ### numbers -/
def keyN (st sy sr : Int) (y : Nd) : Int := ((y.1 * st + y.2.1) * sy + y.2.2.1) * sr + y.2.2.2
def decN (st sy sr : Int) (k : Int) : Nd := (k / sr / sy / st, k / sr / sy % st, k / sr % sy, k % sr)
theorem dm_of {a b n : Int} (hb : 0 ≤ b ∧ b < n) : (a * n + b) / n = a ∧ (a * n + b) % n = b := by
  constructor
  · rw [Int.add_comm, Int.add_mul_ediv_right _ _ (by omega), Int.ediv_eq_zero_of_lt hb.1 hb.2, Int.zero_add]
  · rw [Int.add_comm, Int.add_mul_emod_self_right, Int.emod_eq_of_lt hb.1 hb.2]
theorem dm_to (a n : Int) : a / n * n + a % n = a := by rw [Int.mul_comm]; exact Int.mul_ediv_add_emod a n
theorem decN_key {sl st sy sr : Int} {y : Nd} (h : NdOk sl st sy sr y) : decN st sy sr (keyN st sy sr y) = y := by
  obtain ⟨a, b, c, d⟩ := y
  have h1 := dm_of (a := (a * st + b) * sy + c) h.d
  have h2 := dm_of (a := a * st + b) h.c
  have h3 := dm_of (a := a) h.b
  simp only at h1 h2 h3
  simp only [decN, keyN, h1, h2, h3]
theorem keyN_dec (st sy sr k : Int) : keyN st sy sr (decN st sy sr k) = k := by
  simp only [decN, keyN, dm_to]
theorem keyN_lt {sl st sy sr : Int} {y : Nd} (h : NdOk sl st sy sr y) : 0 ≤ keyN st sy sr y ∧ keyN st sy sr y < sl * st * sy * sr := by
  have h1 := idx_lt h.a h.b
  have h2 := idx_lt ⟨h1.2.1, h1.2.2⟩ h.c
  have h3 := idx_lt ⟨h2.2.1, h2.2.2⟩ h.d
  exact h3.2
theorem decN_ok {sl st sy sr k : Int} (hst : 0 < st) (hsy : 0 < sy) (hsr : 0 < sr) (h0 : 0 ≤ k) (h1 : k < sl * st * sy * sr) : NdOk sl st sy sr (decN st sy sr k) := by
  have a := divmod_lt hsr h0 h1
  have b := divmod_lt hsy a.1.1 a.1.2
  have c := divmod_lt hst b.1.1 b.1.2
  exact ⟨c.1, c.2, b.2, a.2⟩
/-- the table of those that were seen -/
def seenL (f : Nd → Int) (K : Nat) (l : List Nd) : List Bool := (List.range K).map fun k : Nat => decide ((k : Int) ∈ l.map f)
theorem seenL_len (f : Nd → Int) (K : Nat) (l : List Nd) : (seenL f K l).length = K := by simp [seenL]
theorem seenL_at (f : Nd → Int) {K k : Nat} (l : List Nd) (h : k < K) : (seenL f K l)[k]? = some (decide ((k : Int) ∈ l.map f)) := by
  simp [seenL, List.getElem?_range h]
theorem seenL_set {f : Nd → Int} {K k : Nat} {l : List Nd} {y : Nd} (h : f y = (k : Int)) (hk : k < K) : (seenL f K l).set k true = seenL f K (l ++ [y]) := by
  apply List.ext_getElem?
  intro i
  rw [List.getElem?_set]
  by_cases hi : i < K
  · rw [seenL_at f _ hi, seenL_at f _ hi]
    by_cases e : k = i
    · subst e; simp [seenL_len, hk, h]
    · have e2 : ¬ (i : Int) = (k : Int) := by omega
      rw [if_neg e]; simp [h, e2]
  · rw [if_neg (by omega), List.getElem?_eq_none (by rw [seenL_len]; omega), List.getElem?_eq_none (by rw [seenL_len]; omega)]
theorem seenL_nil (f : Nd → Int) (K : Nat) : seenL f K [] = List.replicate K false := by
  apply List.ext_getElem?
  intro i
  by_cases hi : i < K
  · rw [seenL_at f _ hi, List.getElem?_replicate, if_pos hi]; simp
  · rw [List.getElem?_eq_none (by rw [seenL_len]; omega), List.getElem?_eq_none (by simp; omega)]
theorem key_mem {sl st sy sr : Int} {l : List Nd} {y : Nd} (hl : ∀ z ∈ l, NdOk sl st sy sr z) (hy : NdOk sl st sy sr y) : keyN st sy sr y ∈ l.map (keyN st sy sr) ↔ y ∈ l := by
  refine ⟨fun h => ?_, fun h => List.mem_map_of_mem h⟩
  obtain ⟨z, hz, e⟩ := List.mem_map.1 h
  have h1 := decN_key hy
  rw [← e, decN_key (hl z hz)] at h1
  exact h1 ▸ hz
/-- those below k that were seen, in order -/
def sortN (st sy sr : Int) (l : List Nd) (k : Nat) : List Nd := ((List.range k).filter fun j : Nat => decide ((j : Int) ∈ l.map (keyN st sy sr))).map fun j : Nat => decN st sy sr (j : Int)
theorem sortN_succ {st sy sr : Int} {l : List Nd} {k : Nat} : sortN st sy sr l (k + 1) = if (k : Int) ∈ l.map (keyN st sy sr) then sortN st sy sr l k ++ [decN st sy sr k] else sortN st sy sr l k := by
  unfold sortN
  rw [List.range_succ, List.filter_append, List.map_append]
  split
  · rename_i h; simp [h]
  · rename_i h; simp [h]
theorem sortN_len (st sy sr : Int) (l : List Nd) (k : Nat) : (sortN st sy sr l k).length ≤ k := by
  unfold sortN
  rw [List.length_map]
  exact Nat.le_trans (List.length_filter_le _ _) (by simp)
theorem sortN_mem {sl st sy sr : Int} {l : List Nd} {K : Nat} (hK : (K : Int) = sl * st * sy * sr) (hl : ∀ z ∈ l, NdOk sl st sy sr z) (y : Nd) : y ∈ sortN st sy sr l K ↔ y ∈ l := by
  unfold sortN
  rw [List.mem_map]
  constructor
  · rintro ⟨j, hj, rfl⟩
    rw [List.mem_filter] at hj
    obtain ⟨z, hz, e⟩ := List.mem_map.1 (of_decide_eq_true hj.2)
    rw [← e, decN_key (hl z hz)]; exact hz
  · intro hy
    have hk := keyN_lt (hl y hy)
    obtain ⟨n, hn⟩ := Int.eq_ofNat_of_zero_le hk.1
    refine ⟨n, ?_, by rw [← hn]; exact decN_key (hl y hy)⟩
    rw [List.mem_filter]
    exact ⟨List.mem_range.2 (by omega), decide_eq_true (by rw [← hn]; exact List.mem_map_of_mem hy)⟩
theorem sortN_all {sl st sy sr : Int} {l : List Nd} {K : Nat} (hK : (K : Int) = sl * st * sy * sr) (hl : ∀ z ∈ l, NdOk sl st sy sr z) (p : Nd → Bool) : (sortN st sy sr l K).all p = l.all p := by
  rw [Bool.eq_iff_iff, List.all_eq_true, List.all_eq_true]
  exact ⟨fun h y hy => h y ((sortN_mem hK hl y).2 hy), fun h y hy => h y ((sortN_mem hK hl y).1 hy)⟩
def avoidsB (rs : List Rule3) (sy : Int) (xl xr : List Int) : Bool := match clR rs sy xl xr with | none => false | some l => l.all (okN rs sy)
end Go.Proofs.Ytmmgejnhfpfmnaa
