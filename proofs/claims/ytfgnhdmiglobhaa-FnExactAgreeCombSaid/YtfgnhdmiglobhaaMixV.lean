/-
  A region that draws its order, walked by facts: the words for facts, and the state behind it.
-/
import Derived.Test.YtfgnhdmiglobhaaMixA
import Derived.Test.YtfgnhdmiglobhaaBase
namespace Go.Proofs.Ytfgnhdmiglobhaa
namespace MixA
open Go.RowKit
section
variable {F : Nat} {dst : Nat → Tmp} {a0 : Act}
theorem foldl_size : ∀ (ds : List Tmp) (a b : Act), (ds.foldl (fun b d => b.put (some d) (val a d)) b).tmps.size = b.tmps.size
  | [], _, _ => rfl
  | d :: ds, a, b => by rw [List.foldl_cons, foldl_size ds]; simp [Act.put]
theorem act_fold (a : Act) : ∀ (ds : List Tmp) (b : Act), b.tmps.size = a.tmps.size → b.defers = a.defers → (∀ t, t ∉ ds → a.tmps[t]? = b.tmps[t]?) → ds.foldl (fun b d => b.put (some d) (val a d)) b = a
  | [], b, hs, hd, h => by
    obtain ⟨ta, da⟩ := a; obtain ⟨tb, db⟩ := b
    simp only at hs hd
    subst hd
    rw [List.foldl_nil]
    congr 1
    exact Array.ext_getElem? fun i => (h i (by simp)).symm
  | d :: ds, b, hs, hd, h => by
    rw [List.foldl_cons]
    refine act_fold a ds _ (by simp [Act.put, hs]) hd fun t ht => ?_
    by_cases htd : t = d
    · subst htd
      by_cases hl : t < a.tmps.size
      · simp [Act.put, val, hl, hs]
      · have h1 : a.tmps.size ≤ t := Nat.le_of_not_lt hl
        have h2 : (b.put (some t) (val a t)).tmps.size ≤ t := by simp [Act.put, hs, h1]
        rw [Array.getElem?_eq_none h1, Array.getElem?_eq_none h2]
    · rw [h t (by simp [htd, ht])]
      simp [Act.put, Array.getElem?_setIfInBounds_ne (Ne.symm htd)]
end
abbrev Fact1 := List Value → Value → Nat → Nat → World → Prop
def Stab (f : Fact1) : Prop := ∀ l v lo hi w w', Below w.heap.size w w' → f l v lo hi w → f l v lo hi w'
/-- a known value -/
def fP (x : Value) : Fact1 := fun _ v _ _ _ => v = x
theorem fP_st (x : Value) : Stab (fP x) := fun _ _ _ _ _ _ _ h => h
/-- a slice of numbers of its own -/
def fO (n : Nat) (xs : List Int) : Fact1 := fun _ v lo hi w => ∃ A c, v = .slice A n c ∧ Wr w lo hi A n (xs.map i64)
theorem fO_st (n : Nat) (xs : List Int) : Stab (fO n xs) := fun _ _ _ _ _ _ hb h => by obtain ⟨A, c, e, hw⟩ := h; exact ⟨A, c, e, hw.below hb⟩
/-- a block that is built out of the values leaned on -/
def fR (t : TypeId) (n : Nat) : Fact1 := fun l v lo hi w => ∃ g, v = .slice (some ⟨g, 0, none⟩) n n ∧ lo ≤ g ∧ g < hi ∧ Blk w g t l.toArray
theorem fR_st (t : TypeId) (n : Nat) : Stab (fR t n) := fun _ _ _ _ _ _ hb h => by obtain ⟨g, e, h1, h2, h3⟩ := h; exact ⟨g, e, h1, h2, h3.keep hb⟩
/-- a variable's block -/
def fB (t : TypeId) (cs : Array Value) : Fact1 := fun _ v lo hi w => ∃ g, v = .pointer (some ⟨g, 0, none⟩) ∧ lo ≤ g ∧ g < hi ∧ Blk w g t cs
theorem fB_st (t : TypeId) (cs : Array Value) : Stab (fB t cs) := fun _ _ _ _ _ _ hb h => by obtain ⟨g, e, h1, h2, h3⟩ := h; exact ⟨g, e, h1, h2, h3.keep hb⟩
/-- the facts, by the operations' places -/
def facts (fs : List Fact1) : Facts := fun i => fs.getD i (fun _ _ _ _ _ => True)
theorem facts_st {fs : List Fact1} (h : ∀ f ∈ fs, Stab f) : ∀ j l v lo hi w w', Below w.heap.size w w' → facts fs j l v lo hi w → facts fs j l v lo hi w' := by
  intro j l v lo hi w w' hb hf
  unfold facts at *
  by_cases hj : j < fs.length
  · rw [List.getD_eq_getElem?_getD, List.getElem?_eq_getElem hj] at hf ⊢
    exact h _ (List.getElem_mem hj) _ _ _ _ _ _ hb hf
  · rw [List.getD_eq_getElem?_getD, List.getElem?_eq_none (by omega)]; trivial
/-- of each operation but the last, of the last -/
def EachF (p : Nat → Oper → Prop) (q : Oper → Prop) : Nat → List Oper → Prop
  | _, [] => True
  | _, [o] => q o
  | i, o :: o' :: l => p i o ∧ EachF p q (i + 1) (o' :: l)
theorem EachF.front {p : Nat → Oper → Prop} {q : Oper → Prop} : ∀ {l : List Oper} {i k : Nat} {o : Oper}, EachF p q i l → k + 1 < l.length → l[k]? = some o → p (i + k) o
  | [], _, _, _, _, hk, _ => by simp at hk
  | [_], _, _, _, _, hk, _ => by simp at hk
  | o :: o' :: l, i, 0, x, h, _, ho => by simp at ho; subst ho; exact h.1
  | o :: o' :: l, i, k + 1, x, h, hk, ho => by
    have := EachF.front (i := i + 1) (k := k) h.2 (by simpa using hk) (by simpa using ho)
    rwa [show i + (k + 1) = i + 1 + k by omega]
theorem EachF.last {p : Nat → Oper → Prop} {q : Oper → Prop} : ∀ {l : List Oper} {i k : Nat} {o : Oper}, EachF p q i l → k + 1 = l.length → l[k]? = some o → q o
  | [], _, _, _, _, hk, _ => by simp at hk
  | [_], _, k, _, h, hk, ho => by
    obtain rfl : k = 0 := by simpa using hk
    simp at ho; subst ho; exact h
  | o :: o' :: l, i, 0, x, h, hk, ho => by simp at hk
  | o :: o' :: l, i, k + 1, x, h, hk, ho => EachF.last (i := i + 1) (k := k) h.2 (by simpa using hk) (by simpa using ho)
section
variable {P : Program} {a a0 : Act} {w w0 : World} {F : Nat} {dsts : List Tmp} {Ds : List (List Nat)} {fs : List Fact1}
/-- what an operation finds -/
structure Finds (F : Nat) (dsts : List Tmp) (Ds : List (List Nat)) (fs : List Fact1) (a0 : Act) (w0 : World) (i : Nat) (a : Act) (w : World) : Prop where
  below : Below w0.heap.size w0 w
  size : a.tmps.size = a0.tmps.size
  defers : a.defers = a0.defers
  old : ∀ t, t ∉ dsts → a.tmps[t]? = a0.tmps[t]?
  facts : ∃ R : Nat → Nat × Nat, (∀ j ∈ Ds.getD i [], facts fs j ((Ds.getD j []).map fun k => val a (dsts.getD k 0)) (val a (dsts.getD j 0)) (R j).1 (R j).2 w ∧ w0.heap.size ≤ (R j).1 ∧ (R j).1 ≤ (R j).2 ∧ (R j).2 ≤ w.heap.size) ∧ ∀ j ∈ Ds.getD i [], ∀ k ∈ Ds.getD i [], j ≠ k → (R j).2 ≤ (R k).1 ∨ (R k).2 ≤ (R j).1
/-- what the last operation finds -/
structure Ends (F : Nat) (dsts : List Tmp) (Ds : List (List Nat)) (fs : List Fact1) (a0 : Act) (w0 : World) (a : Act) (w : World) : Prop where
  below : Below w0.heap.size w0 w
  act : a = dsts.foldl (fun b d => b.put (some d) (val a d)) a0
  facts : ∃ R : Nat → Nat × Nat, (∀ j, j < F → facts fs j ((Ds.getD j []).map fun k => val a (dsts.getD k 0)) (val a (dsts.getD j 0)) (R j).1 (R j).2 w ∧ w0.heap.size ≤ (R j).1 ∧ (R j).1 ≤ (R j).2 ∧ (R j).2 ≤ w.heap.size) ∧ ∀ j k, j < F → k < F → j ≠ k → (R j).2 ≤ (R k).1 ∨ (R k).2 ≤ (R j).1
theorem Finds.pure {i j : Nat} {x : Value} (h : Finds F dsts Ds fs a0 w0 i a w) (hj : j ∈ Ds.getD i []) (hf : fs[j]? = some (fP x)) : val a (dsts.getD j 0) = x := by
  obtain ⟨R, hR, _⟩ := h.facts
  have := (hR j hj).1
  unfold MixA.facts at this
  rw [List.getD_eq_getElem?_getD, hf] at this
  exact this
theorem Finds.was {i : Nat} {t : Tmp} {x : Value} (h : Finds F dsts Ds fs a0 w0 i a w) (ht : t ∉ dsts) (hx : a0.tmps[t]? = some x) : val a t = x := by
  have := h.old t ht
  unfold val
  rw [Array.getD_eq_getD_getElem?, this, hx]; rfl
theorem Ends.pure {j : Nat} {x : Value} (h : Ends F dsts Ds fs a0 w0 a w) (hj : j < F) (hf : fs[j]? = some (fP x)) : val a (dsts.getD j 0) = x := by
  obtain ⟨R, hR, _⟩ := h.facts
  have := (hR j hj).1
  unfold MixA.facts at this
  rw [List.getD_eq_getElem?_getD, hf] at this
  exact this
/-- **A region that draws its order, walked by facts.** -/
theorem wp_facts {Q' : Exit → Act → World → Prop} {id : Nat} {a0 : Act} {w : World} {l : List Oper} (F : Nat) (dsts : List Tmp) (Ds : List (List Nat)) (fs : List Fact1) (hm : P.follows .mixedOrders = true) (hB : chkA l.toArray F dsts Ds = true) (hsz : ∀ t ∈ dsts, t < a0.tmps.size)
    (hst : ∀ f ∈ fs, Stab f)
    (h : EachF (fun i o => ∀ a w', Finds F dsts Ds fs a0 w.drew i a w' → o.wp P a w' (fun a' w'' => ∃ v, a' = a.put (some (dsts.getD i 0)) v ∧ Below w'.heap.size w' w'' ∧ facts fs i ((Ds.getD i []).map fun k => val a (dsts.getD k 0)) v w'.heap.size w''.heap.size w'') (fun _ _ _ => False))
      (fun o => ∀ a w', Ends F dsts Ds fs a0 w.drew a w' → o.wp P a w' (fun a w => Q' .normal a w) (fun _ _ _ => False)) 0 l) : (Code.region id l.toArray true).wp P Q' a0 w := by
  have hB' := hB
  simp only [chkA, Bool.and_eq_true, decide_eq_true_eq] at hB'
  obtain ⟨⟨⟨⟨⟨hs, hl⟩, _⟩, _⟩, _⟩, _⟩ := hB'
  have hs' : l.length = F + 1 := by simpa using hs
  have hold : ∀ (a : Act), (∀ t, (∀ j, j < F → (fun j => dsts.getD j 0) j ≠ t) → a.tmps[t]? = a0.tmps[t]?) → ∀ t, t ∉ dsts → a.tmps[t]? = a0.tmps[t]? := by
    intro a ha t ht
    refine ha t fun j hj e => ht ?_
    subst e
    show dsts.getD j 0 ∈ dsts
    rw [List.getD_eq_getElem?_getD, List.getElem?_eq_getElem (by omega)]
    exact List.getElem_mem (by omega)
  refine wp_region_facts F dsts Ds (facts fs) hm hB hsz (facts_st hst) ?_ ?_
  · intro i o hi ho a w' hle
    obtain ⟨h1, h2, h3, h4, h5⟩ := hle
    have := h.front (k := i) (by omega) ho a w'
    rw [Nat.zero_add] at this
    exact this ⟨h1, h2, h3, hold a h4, h5⟩
  · intro o ho a w' hd
    obtain ⟨h1, h2, h3, h4, h5⟩ := hd
    exact h.last (k := F) (by omega) ho a w' ⟨h1, (act_fold a dsts a0 h2.symm h3.symm (hold a h4)).symm, h5⟩
/-- an operation is walked at a state that agrees on what it looks at -/
theorem hop {o : Oper} (ac : Act) {d : Tmp} {K : Value → World → Prop} (hs : ∀ cs b, o.op ≠ .select cs b) (ho : o.dst = some d) (hd : d < ac.tmps.size) (h : ∀ x ∈ o.op.operands, a.eval x = ac.eval x)
    (hh : o.wp P ac w (fun a' w' => ∃ v, a' = ac.put (some d) v ∧ K v w') (fun _ _ _ => False)) : o.wp P a w (fun a' w' => ∃ v, a' = a.put (some d) v ∧ K v w') (fun _ _ _ => False) := wp_agree hs ho hd h hh
end
end MixA
end Go.Proofs.Ytfgnhdmiglobhaa
