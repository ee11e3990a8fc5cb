/-
  Parts of the proof, one behind the other: contracts of the functions that the law reaches, and plain laws.
-/
import Derived.Test.YtebjpmmgdkepjaaGreatDoorLot01
import Derived.Test.YtebjpmmgdkepjaaGreatDoorLot08
/-
  A region that draws its order, walked by facts: the words for facts, and the state behind it.
-/
namespace Go.Proofs.YtebjpmmgdkepjaaGreatDoor
namespace MixA
open Go.RowKit
section
variable {F : Nat} {dst : Nat → Tmp} {a0 : Act}
theorem foldl_size : ∀ (ds : List Tmp) (a b : Act), (ds.foldl (fun b d => b.put (some d) (val a d)) b).tmps.size = b.tmps.size
  | [], _, _ => rfl
  | d :: ds, a, b => by rw [List.foldl_cons, foldl_size ds]; simp [Act.put]
theorem act_fold (a : Act) : ∀ (ds : List Tmp) (b : Act), b.tmps.size = a.tmps.size → b.defers = a.defers → (∀ t, t ∉ ds → a.tmps[t]? = b.tmps[t]?) → ds.foldl (fun b d => b.put (some d) (val a d)) b = a
  | [], b, hs, hd, h => by
    obtain ⟨ta, da⟩ := a; obtain ⟨tb, db⟩ := b
    simp only at hs hd
    subst hd
    rw [List.foldl_nil]
    congr 1
    exact Array.ext_getElem? fun i => (h i (by simp)).symm
  | d :: ds, b, hs, hd, h => by
    rw [List.foldl_cons]
    refine act_fold a ds _ (by simp [Act.put, hs]) hd fun t ht => ?_
    by_cases htd : t = d
    · subst htd
      by_cases hl : t < a.tmps.size
      · simp [Act.put, val, hl, hs]
      · have h1 : a.tmps.size ≤ t := Nat.le_of_not_lt hl
        have h2 : (b.put (some t) (val a t)).tmps.size ≤ t := by simp [Act.put, hs, h1]
        rw [Array.getElem?_eq_none h1, Array.getElem?_eq_none h2]
    · rw [h t (by simp [htd, ht])]
      simp [Act.put, Array.getElem?_setIfInBounds_ne (Ne.symm htd)]
end
abbrev Fact1 := List Value → Value → Nat → Nat → World → Prop
def Stab (f : Fact1) : Prop := ∀ l v lo hi w w', Below w.heap.size w w' → f l v lo hi w → f l v lo hi w'
/-- a known value -/
def fP (x : Value) : Fact1 := fun _ v _ _ _ => v = x
theorem fP_st (x : Value) : Stab (fP x) := fun _ _ _ _ _ _ _ h => h
/-- a slice of numbers of its own -/
def fO (n : Nat) (xs : List Int) : Fact1 := fun _ v lo hi w => ∃ A c, v = .slice A n c ∧ Wr w lo hi A n (xs.map i64)
theorem fO_st (n : Nat) (xs : List Int) : Stab (fO n xs) := fun _ _ _ _ _ _ hb h => by obtain ⟨A, c, e, hw⟩ := h; exact ⟨A, c, e, hw.below hb⟩
/-- a block that is built out of the values leaned on -/
def fR (t : TypeId) (n : Nat) : Fact1 := fun l v lo hi w => ∃ g, v = .slice (some ⟨g, 0, none⟩) n n ∧ lo ≤ g ∧ g < hi ∧ Blk w g t l.toArray
theorem fR_st (t : TypeId) (n : Nat) : Stab (fR t n) := fun _ _ _ _ _ _ hb h => by obtain ⟨g, e, h1, h2, h3⟩ := h; exact ⟨g, e, h1, h2, h3.keep hb⟩
/-- a variable's block -/
def fB (t : TypeId) (cs : Array Value) : Fact1 := fun _ v lo hi w => ∃ g, v = .pointer (some ⟨g, 0, none⟩) ∧ lo ≤ g ∧ g < hi ∧ Blk w g t cs
theorem fB_st (t : TypeId) (cs : Array Value) : Stab (fB t cs) := fun _ _ _ _ _ _ hb h => by obtain ⟨g, e, h1, h2, h3⟩ := h; exact ⟨g, e, h1, h2, h3.keep hb⟩
/-- the facts, by the operations' places -/
def facts (fs : List Fact1) : Facts := fun i => fs.getD i (fun _ _ _ _ _ => True)
theorem facts_st {fs : List Fact1} (h : ∀ f ∈ fs, Stab f) : ∀ j l v lo hi w w', Below w.heap.size w w' → facts fs j l v lo hi w → facts fs j l v lo hi w' := by
  intro j l v lo hi w w' hb hf
  unfold facts at *
  by_cases hj : j < fs.length
  · rw [List.getD_eq_getElem?_getD, List.getElem?_eq_getElem hj] at hf ⊢
    exact h _ (List.getElem_mem hj) _ _ _ _ _ _ hb hf
  · rw [List.getD_eq_getElem?_getD, List.getElem?_eq_none (by omega)]; trivial
/-- of each operation but the last, of the last -/
def EachF (p : Nat → Oper → Prop) (q : Oper → Prop) : Nat → List Oper → Prop
  | _, [] => True
  | _, [o] => q o
  | i, o :: o' :: l => p i o ∧ EachF p q (i + 1) (o' :: l)
theorem EachF.front {p : Nat → Oper → Prop} {q : Oper → Prop} : ∀ {l : List Oper} {i k : Nat} {o : Oper}, EachF p q i l → k + 1 < l.length → l[k]? = some o → p (i + k) o
  | [], _, _, _, _, hk, _ => by simp at hk
  | [_], _, _, _, _, hk, _ => by simp at hk
  | o :: o' :: l, i, 0, x, h, _, ho => by simp at ho; subst ho; exact h.1
  | o :: o' :: l, i, k + 1, x, h, hk, ho => by
    have := EachF.front (i := i + 1) (k := k) h.2 (by simpa using hk) (by simpa using ho)
    rwa [show i + (k + 1) = i + 1 + k by omega]
theorem EachF.last {p : Nat → Oper → Prop} {q : Oper → Prop} : ∀ {l : List Oper} {i k : Nat} {o : Oper}, EachF p q i l → k + 1 = l.length → l[k]? = some o → q o
  | [], _, _, _, _, hk, _ => by simp at hk
  | [_], _, k, _, h, hk, ho => by
    obtain rfl : k = 0 := by simpa using hk
    simp at ho; subst ho; exact h
  | o :: o' :: l, i, 0, x, h, hk, ho => by simp at hk
  | o :: o' :: l, i, k + 1, x, h, hk, ho => EachF.last (i := i + 1) (k := k) h.2 (by simpa using hk) (by simpa using ho)
section
variable {P : Program} {a a0 : Act} {w w0 : World} {F : Nat} {dsts : List Tmp} {Ds : List (List Nat)} {fs : List Fact1}
/-- what an operation finds -/
structure Finds (F : Nat) (dsts : List Tmp) (Ds : List (List Nat)) (fs : List Fact1) (a0 : Act) (w0 : World) (i : Nat) (a : Act) (w : World) : Prop where
  below : Below w0.heap.size w0 w
  size : a.tmps.size = a0.tmps.size
  defers : a.defers = a0.defers
  old : ∀ t, t ∉ dsts → a.tmps[t]? = a0.tmps[t]?
  facts : ∃ R : Nat → Nat × Nat, (∀ j ∈ Ds.getD i [], facts fs j ((Ds.getD j []).map fun k => val a (dsts.getD k 0)) (val a (dsts.getD j 0)) (R j).1 (R j).2 w ∧ w0.heap.size ≤ (R j).1 ∧ (R j).1 ≤ (R j).2 ∧ (R j).2 ≤ w.heap.size) ∧ ∀ j ∈ Ds.getD i [], ∀ k ∈ Ds.getD i [], j ≠ k → (R j).2 ≤ (R k).1 ∨ (R k).2 ≤ (R j).1
/-- what the last operation finds -/
structure Ends (F : Nat) (dsts : List Tmp) (Ds : List (List Nat)) (fs : List Fact1) (a0 : Act) (w0 : World) (a : Act) (w : World) : Prop where
  below : Below w0.heap.size w0 w
  act : a = dsts.foldl (fun b d => b.put (some d) (val a d)) a0
  facts : ∃ R : Nat → Nat × Nat, (∀ j, j < F → facts fs j ((Ds.getD j []).map fun k => val a (dsts.getD k 0)) (val a (dsts.getD j 0)) (R j).1 (R j).2 w ∧ w0.heap.size ≤ (R j).1 ∧ (R j).1 ≤ (R j).2 ∧ (R j).2 ≤ w.heap.size) ∧ ∀ j k, j < F → k < F → j ≠ k → (R j).2 ≤ (R k).1 ∨ (R k).2 ≤ (R j).1
theorem Finds.pure {i j : Nat} {x : Value} (h : Finds F dsts Ds fs a0 w0 i a w) (hj : j ∈ Ds.getD i []) (hf : fs[j]? = some (fP x)) : val a (dsts.getD j 0) = x := by
  obtain ⟨R, hR, _⟩ := h.facts
  have := (hR j hj).1
  unfold MixA.facts at this
  rw [List.getD_eq_getElem?_getD, hf] at this
  exact this
theorem Finds.was {i : Nat} {t : Tmp} {x : Value} (h : Finds F dsts Ds fs a0 w0 i a w) (ht : t ∉ dsts) (hx : a0.tmps[t]? = some x) : val a t = x := by
  have := h.old t ht
  unfold val
  rw [Array.getD_eq_getD_getElem?, this, hx]; rfl
theorem Ends.pure {j : Nat} {x : Value} (h : Ends F dsts Ds fs a0 w0 a w) (hj : j < F) (hf : fs[j]? = some (fP x)) : val a (dsts.getD j 0) = x := by
  obtain ⟨R, hR, _⟩ := h.facts
  have := (hR j hj).1
  unfold MixA.facts at this
  rw [List.getD_eq_getElem?_getD, hf] at this
  exact this
/-- **A region that draws its order, walked by facts.** -/
theorem wp_facts {Q' : Exit → Act → World → Prop} {id : Nat} {a0 : Act} {w : World} {l : List Oper} (F : Nat) (dsts : List Tmp) (Ds : List (List Nat)) (fs : List Fact1) (hm : P.follows .mixedOrders = true) (hB : chkA l.toArray F dsts Ds = true) (hsz : ∀ t ∈ dsts, t < a0.tmps.size)
    (hst : ∀ f ∈ fs, Stab f)
    (h : EachF (fun i o => ∀ a w', Finds F dsts Ds fs a0 w.drew i a w' → o.wp P a w' (fun a' w'' => ∃ v, a' = a.put (some (dsts.getD i 0)) v ∧ Below w'.heap.size w' w'' ∧ facts fs i ((Ds.getD i []).map fun k => val a (dsts.getD k 0)) v w'.heap.size w''.heap.size w'') (fun _ _ _ => False))
      (fun o => ∀ a w', Ends F dsts Ds fs a0 w.drew a w' → o.wp P a w' (fun a w => Q' .normal a w) (fun _ _ _ => False)) 0 l) : (Code.region id l.toArray true).wp P Q' a0 w := by
  have hB' := hB
  simp only [chkA, Bool.and_eq_true, decide_eq_true_eq] at hB'
  obtain ⟨⟨⟨⟨⟨hs, hl⟩, _⟩, _⟩, _⟩, _⟩ := hB'
  have hs' : l.length = F + 1 := by simpa using hs
  have hold : ∀ (a : Act), (∀ t, (∀ j, j < F → (fun j => dsts.getD j 0) j ≠ t) → a.tmps[t]? = a0.tmps[t]?) → ∀ t, t ∉ dsts → a.tmps[t]? = a0.tmps[t]? := by
    intro a ha t ht
    refine ha t fun j hj e => ht ?_
    subst e
    show dsts.getD j 0 ∈ dsts
    rw [List.getD_eq_getElem?_getD, List.getElem?_eq_getElem (by omega)]
    exact List.getElem_mem (by omega)
  refine wp_region_facts F dsts Ds (facts fs) hm hB hsz (facts_st hst) ?_ ?_
  · intro i o hi ho a w' hle
    obtain ⟨h1, h2, h3, h4, h5⟩ := hle
    have := h.front (k := i) (by omega) ho a w'
    rw [Nat.zero_add] at this
    exact this ⟨h1, h2, h3, hold a h4, h5⟩
  · intro o ho a w' hd
    obtain ⟨h1, h2, h3, h4, h5⟩ := hd
    exact h.last (k := F) (by omega) ho a w' ⟨h1, (act_fold a dsts a0 h2.symm h3.symm (hold a h4)).symm, h5⟩
/-- an operation is walked at a state that agrees on what it looks at -/
theorem hop {o : Oper} (ac : Act) {d : Tmp} {K : Value → World → Prop} (hs : ∀ cs b, o.op ≠ .select cs b) (ho : o.dst = some d) (hd : d < ac.tmps.size) (h : ∀ x ∈ o.op.operands, a.eval x = ac.eval x)
    (hh : o.wp P ac w (fun a' w' => ∃ v, a' = ac.put (some d) v ∧ K v w') (fun _ _ _ => False)) : o.wp P a w (fun a' w' => ∃ v, a' = a.put (some d) v ∧ K v w') (fun _ _ _ => False) := wp_agree hs ho hd h hh
end
end MixA
namespace MixA
open Go.RowKit Mix
section
variable {P : Program} {md : Region.Mode} {ops : Array Oper} {F : Nat} {dst : Nat → Tmp} {D : Nat → List Nat} {V : Facts} {a0 : Act} {w0 : World} {Q' : Exit → Act → World → Prop}
def chkA2 (ops : Array Oper) (F : Nat) (dsts : List Tmp) (Ds : List (List Nat)) : Bool :=
  decide (ops.size = F + 2) && decide (dsts.length = F) && decide dsts.Nodup &&
    (List.range F).all (fun i => match ops[i]? with
      | none => false
      | some o => o.guard.isNone && decide (o.dst = some (dsts.getD i 0)) && o.after.toList.all (fun e => !Region.binds .any e || decide (e.on < i)) && (Ds.getD i []).all fun k => decide (k < F) && reach .any ops F i k) &&
    (List.range F).all (fun i => reach .any ops (F + 1) F i) && (List.range F).all (fun i => reach .any ops (F + 2) (F + 1) i) && reach .any ops (F + 2) (F + 1) F &&
    (match ops[F]? with | none => false | some o => o.guard.isNone && o.after.toList.all (fun e => !Region.binds .any e || decide (e.on < F))) &&
    (match ops[F + 1]? with | none => false | some o => o.guard.isNone && o.after.toList.all (fun e => !Region.binds .any e || decide (e.on < F + 1)))
/-- **A region that draws its order, two operations at the end, one behind the other, walked by facts.** -/
theorem wp_region_facts2 {id : Nat} {a0 : Act} {w : World} {l : List Oper} (F : Nat) (dsts : List Tmp) (Ds : List (List Nat)) (V : Facts) (hm : P.follows .mixedOrders = true) (hB : chkA2 l.toArray F dsts Ds = true) (hsz : ∀ t ∈ dsts, t < a0.tmps.size)
    (hst : ∀ j l v lo hi w w', Below w.heap.size w w' → V j l v lo hi w → V j l v lo hi w')
    (hop : ∀ i o, i < F → l[i]? = some o → ∀ a w', Leans F (fun j => dsts.getD j 0) (fun j => Ds.getD j []) V a0 w.drew i a w' → o.wp P a w' (fun a' w'' => ∃ v, a' = a.put (some (dsts.getD i 0)) v ∧ Below w'.heap.size w' w'' ∧ V i ((Ds.getD i []).map fun k => val a (dsts.getD k 0)) v w'.heap.size w''.heap.size w'') (fun _ _ _ => False))
    (hend : ∀ o o', l[F]? = some o → l[F + 1]? = some o' → ∀ a w', Done F (fun j => dsts.getD j 0) (fun j => Ds.getD j []) V a0 w.drew a w' → o.wp P a w' (fun a w => o'.wp P a w (fun a w => Q' .normal a w) (fun _ _ _ => False)) (fun _ _ _ => False)) : (Code.region id l.toArray true).wp P Q' a0 w := by
  simp only [chkA2, Bool.and_eq_true, decide_eq_true_eq, List.all_eq_true, List.mem_range] at hB
  obtain ⟨⟨⟨⟨⟨⟨⟨⟨hs, hl⟩, hnd⟩, hat⟩, htl⟩, htl2⟩, htl3⟩, hte⟩, hte2⟩ := hB
  have hlt : ∀ j, j < F → dsts.getD j 0 ∈ dsts := fun j hj => by
    rw [List.getD_eq_getElem?_getD, List.getElem?_eq_getElem (by omega)]; exact List.getElem_mem (by omega)
  have hat' : ∀ i, i < F → ∃ o, l.toArray[i]? = some o ∧ o.guard = none ∧ o.dst = some (dsts.getD i 0) ∧ (∀ e ∈ o.after, Region.binds .any e = true → e.on < i) ∧ ∀ k ∈ Ds.getD i [], k < F ∧ Needs .any l.toArray i k := by
    intro i hi
    have := hat i hi
    cases ho : l.toArray[i]? with
    | none => rw [ho] at this; simp at this
    | some o =>
      rw [ho] at this
      simp only [Bool.and_eq_true, decide_eq_true_eq, List.all_eq_true, Bool.or_eq_true, Bool.not_eq_true', Option.isNone_iff_eq_none] at this
      obtain ⟨⟨⟨h1, h2⟩, h3⟩, h4⟩ := this
      refine ⟨o, rfl, h1, h2, fun e he hb => ?_, fun k hk => ⟨(h4 k hk).1, reach_needs (h4 k hk).2⟩⟩
      rcases h3 e (by simpa using he) with h5 | h5
      · rw [hb] at h5; cases h5
      · exact h5
  refine wp_region_any hm ?_
  have hmain := facts_any (P := P) (ops := l.toArray) (md := .any) (F := F) (dst := fun j => dsts.getD j 0) (D := fun j => Ds.getD j []) (V := V) (a0 := a0) (w0 := w.drew) (Q' := Q') ?_ ?_ ?_ hst ?_ ?_ ?_ ?_ ?_ F (List.range F) (Array.replicate l.toArray.size false) a0 w.drew (by simp) List.nodup_range ?_ ?_
  · rw [show l.toArray.size - F + F = l.toArray.size by omega] at hmain; exact hmain
  · intro j k hj hk e
    have e1 : dsts.getD j 0 = dsts.getD k 0 := e
    rw [List.getD_eq_getElem?_getD, List.getD_eq_getElem?_getD, List.getElem?_eq_getElem (show j < dsts.length by omega), List.getElem?_eq_getElem (show k < dsts.length by omega)] at e1
    simp only [Option.getD_some] at e1
    rcases Nat.lt_trichotomy j k with h | h | h
    · exact absurd e1 (List.pairwise_iff_getElem.1 hnd j k (by omega) (by omega) h)
    · exact h
    · exact absurd e1.symm (List.pairwise_iff_getElem.1 hnd k j (by omega) (by omega) h)
  · exact fun j hj => hsz _ (hlt j hj)
  · intro j hj k hk
    obtain ⟨o, _, _, _, _, h⟩ := hat' j hj
    exact h k hk
  · intro i hi
    obtain ⟨o, h1, h2, h3, _⟩ := hat' i hi
    exact ⟨o, h1, h2, h3⟩
  · intro i o hi ho e he hb
    obtain ⟨o', h1, _, _, h4, _⟩ := hat' i hi
    obtain rfl : o' = o := Option.some.inj (h1.symm.trans ho)
    exact h4 e he hb
  · intro t h1 h2 i hi
    rcases (show t = F ∨ t = F + 1 by omega) with rfl | rfl
    · exact reach_needs (htl i hi)
    · exact reach_needs (htl2 i hi)
  · intro i o hi ho a w' hle
    exact hop i o hi (by simpa using ho) a w' hle
  · intro listed a w' h hall
    obtain ⟨o, ho⟩ : ∃ o, l.toArray[F]? = some o := ⟨_, Array.getElem?_eq_getElem (by omega)⟩
    rw [ho] at hte
    simp only [Bool.and_eq_true, List.all_eq_true, Bool.or_eq_true, Bool.not_eq_true', decide_eq_true_eq, Option.isNone_iff_eq_none] at hte
    have hFs : F < listed.size := by rw [h.size]; omega
    have hready : F ∈ Region.ready .any l.toArray listed := mem_ready.2 ⟨by have := h.noTail F (Nat.le_refl _); simp [hFs] at this ⊢; exact this, o, ho, fun e he hb => hall _ (by
      rcases hte.2 e (by simpa using he) with h5 | h5
      · rw [hb] at h5; cases h5
      · exact h5)⟩
    obtain ⟨o', ho'⟩ : ∃ o, l.toArray[F + 1]? = some o := ⟨_, Array.getElem?_eq_getElem (by omega)⟩
    rw [ho'] at hte2
    simp only [Bool.and_eq_true, List.all_eq_true, Bool.or_eq_true, Bool.not_eq_true', decide_eq_true_eq, Option.isNone_iff_eq_none] at hte2
    have hFs2 : F + 1 < listed.size := by rw [h.size]; omega
    rw [show l.toArray.size - F = 0 + 1 + 1 by omega]
    refine ⟨fun hr => (by rw [hr] at hready; cases hready), fun i hi => ?_⟩
    obtain ⟨hun, oi, hoi, _⟩ := mem_ready.1 hi
    have hilt : i < l.toArray.size := (Array.getElem?_eq_some_iff.1 hoi).1
    obtain rfl : i = F := by
      by_cases hiF : i < F
      · exact absurd hun (getD_tf (by rw [h.size]; exact hilt) (hall i hiF))
      · rcases (show i = F ∨ i = F + 1 by omega) with e | e
        · exact e
        · subst e
          have h1 := (reach_needs htl3).ready h.closed hi
          have h2 := h.noTail F (Nat.le_refl _)
          rw [h1] at h2; cases h2
    obtain rfl : oi = o := Option.some.inj (hoi.symm.trans ho)
    unfold wpOp
    simp only [hoi]
    rw [if_pos (by simp [Region.wanted, hte.1])]
    have hall2 : ∀ j, j < i + 1 → (listed.setIfInBounds i true).getD j false = true := fun j hj => by
      by_cases hji : j = i
      · subst hji; simp [hFs]
      · rw [getD_set_ne false (Ne.symm hji)]; exact hall j (by omega)
    have hready2 : i + 1 ∈ Region.ready .any l.toArray (listed.setIfInBounds i true) := mem_ready.2 ⟨by
        rw [getD_set_ne true (by omega)]
        have := h.noTail (i + 1) (by omega)
        simp [hFs2] at this ⊢; exact this, o', ho', fun e he hb => hall2 _ (by
      rcases hte2.2 e (by simpa using he) with h5 | h5
      · rw [hb] at h5; cases h5
      · exact h5)⟩
    refine .inl (wp_noexit (Oper.wp_mono (fun a' w'' hk => ?_) (hend oi o' (by simpa using ho) (by simpa using ho') a w' ⟨h.ext, h.tm, h.df, h.agree, ?_⟩)))
    · refine ⟨fun hr => (by rw [hr] at hready2; cases hready2), fun i' hi' => ?_⟩
      obtain ⟨hun', oi', hoi', _⟩ := mem_ready.1 hi'
      have hilt' : i' < l.toArray.size := (Array.getElem?_eq_some_iff.1 hoi').1
      obtain rfl : i' = i + 1 := by
        by_cases hiF : i' < i + 1
        · exact absurd hun' (getD_tf (by simp [h.size]; simpa using hilt') (hall2 i' hiF))
        · omega
      obtain rfl : oi' = o' := Option.some.inj (hoi'.symm.trans ho')
      unfold wpOp
      simp only [hoi']
      rw [if_pos (by simp [Region.wanted, hte2.1])]
      refine .inl (wp_noexit (Oper.wp_mono (fun a2 w2 hk2 => ⟨?_, hk2⟩) hk))
      refine List.eq_nil_iff_forall_not_mem.2 fun j hj => ?_
      obtain ⟨hun2, oj, hoj, _⟩ := mem_ready.1 hj
      have hjlt : j < l.toArray.size := (Array.getElem?_eq_some_iff.1 hoj).1
      by_cases hji : j = i + 1
      · subst hji; simp [hFs2] at hun2
      · rw [getD_set_ne true (Ne.symm hji)] at hun2
        exact absurd hun2 (getD_tf (by simp [h.size]; simpa using hjlt) (hall2 j (by omega)))
    · obtain ⟨R, h1, h2⟩ := h.facts
      exact ⟨R, fun j hj => h1 j hj (hall j hj), fun j k hj hk hjk => h2 j k hj hk hjk (hall j hj) (hall k hk)⟩
  · intro j
    simp only [List.mem_range]
    constructor
    · intro hj; refine ⟨hj, ?_⟩; simp [Array.getD]
    · exact fun h => h.1
  · refine ⟨by simp, fun k ok hk hl => ?_, ⟨rfl, rfl, rfl, Nat.le_refl _, fun _ _ => rfl⟩, rfl, rfl, fun _ _ => rfl, fun i _ => by simp [Array.getD], fun _ => (0, 0), fun j _ hl => ?_, fun j k _ _ _ hl _ => ?_⟩
    all_goals simp [Array.getD] at hl
theorem facts_any3 (e : Nat) (he : e < F) (hsel : ∀ (j : Nat) (o : Oper) cs b, ops[j]? = some o → o.op ≠ .select cs b) (hQ : ∀ c a w, ¬ Q' (.panic c) a w)
    (hap : ∀ j oj oe, F ≤ j → ops[j]? = some oj → ops[e]? = some oe → (∀ x ∈ oj.after, Region.binds md x = true → x.on ≠ e) → oe.apart ops oj = true)
    (hpure : ∀ oe, ops[e]? = some oe → ∀ a w, Leans F dst D V a0 w0 e a w → ∃ x, (∀ w', (execOp a.eval oe).run P w' = .ok (.value x) w') ∧ V e ((D e).map fun k => val a (dst k)) x w.heap.size w.heap.size w)
    (hinj : ∀ j k, j < F → k < F → dst j = dst k → j = k) (hdst : ∀ j, j < F → dst j < a0.tmps.size) (hD : ∀ j, j < F → ∀ k ∈ D j, k < F ∧ Needs md ops j k)
    (hst : ∀ j l v lo hi w w', Below w.heap.size w w' → V j l v lo hi w → V j l v lo hi w')
    (hat : ∀ i, i < F → ∃ o, ops[i]? = some o ∧ o.guard = none ∧ o.dst = some (dst i))
    (hlow : ∀ i o, i < F → ops[i]? = some o → ∀ e ∈ o.after, Region.binds md e = true → e.on < i)
    (htail : ∀ t, F ≤ t → t < ops.size → ∀ i, i < F → (i = e → t ≠ F) → Needs md ops t i)
    (hop : ∀ i o, i < F → ops[i]? = some o → ∀ a w, Leans F dst D V a0 w0 i a w → o.wp P a w (fun a' w' => ∃ v, a' = a.put (some (dst i)) v ∧ Below w.heap.size w w' ∧ V i ((D i).map fun k => val a (dst k)) v w.heap.size w'.heap.size w') (fun _ _ _ => False))
    (hend : ∀ listed a w, St md ops F dst D V a0 w0 listed a w → (∀ j, j < F → listed.getD j false = true) → wpAny P md ops Q' (ops.size - F) listed a w) :
    ∀ (m : Nat) (L : List Nat) (listed : Array Bool) (a : Act) (w : World), L.length = m → L.Nodup → (∀ j, j ∈ L ↔ j < F ∧ listed.getD j false = false) → St md ops F dst D V a0 w0 listed a w → wpAny P md ops Q' (ops.size - F + m) listed a w := by
  intro m
  induction m with
  | zero =>
    intro L listed a w hL _ hm h
    obtain rfl := List.eq_nil_of_length_eq_zero hL
    refine hend listed a w h fun j hj => ?_
    cases hl : listed.getD j false
    · exact absurd ((hm j).2 ⟨hj, hl⟩) (by simp)
    · rfl
  | succ m ih =>
    intro L listed a w hL hnd hm h
    have hsz := h.size
    by_cases hLe : L = [e]
    · subst hLe
      obtain rfl : m = 0 := by simpa using hL.symm
      obtain ⟨oe, hoe, hge, hde⟩ := hat e he
      have hl : ∀ j, j < F → j ≠ e → listed.getD j false = true := fun j hj hje => by
        cases hq : listed.getD j false
        · have := (hm j).2 ⟨hj, hq⟩; simp at this; exact absurd this hje
        · rfl
      have hun : listed.getD e false = false := ((hm e).1 (by simp)).2
      have hes : e < listed.size := by rw [hsz]; exact (Array.getElem?_eq_some_iff.1 hoe).1
      have hready : e ∈ Region.ready md ops listed := mem_ready.2 ⟨by simp [hes] at hun ⊢; exact hun, oe, hoe, fun x hx hb => hl _ (by have := hlow e oe he hoe x hx hb; omega) (by have := hlow e oe he hoe x hx hb; omega)⟩
      obtain ⟨R, hR, hRd⟩ := h.facts
      have hlD : ∀ j ∈ D e, j < F ∧ listed.getD j false = true := fun j hj => ⟨(hD e he j hj).1, (hD e he j hj).2.ready h.closed hready⟩
      obtain ⟨x, hx, hv⟩ := hpure oe hoe a w ⟨h.ext, h.tm, h.df, h.agree, R, fun j hj => hR j (hlD j hj).1 (hlD j hj).2, fun j hj k hk hjk => hRd j k (hlD j hj).1 (hlD k hk).1 hjk (hlD j hj).2 (hlD k hk).2⟩
      refine wpAny_first hoe hsel (fun c a w hp => absurd hp (hQ _ _ _)) (ops.size - F + 0) listed a w (fun j oj hj hje hjun hno => ?_) hready (.inl ⟨by simp [Region.wanted, hge], hx⟩) ?_
      · by_cases hjF : j < F
        · exact absurd hjun (getD_tf (by rw [hsz]; exact (Array.getElem?_eq_some_iff.1 hj).1) (hl j hjF hje))
        · exact hap j oj oe (by omega) hj hoe hno
      · rw [hde]
        refine hend _ _ _ (h.step he hready hinj (hdst e he) hD hst ⟨rfl, rfl, rfl, Nat.le_refl _, fun _ _ => rfl⟩ hv) fun j hj => ?_
        by_cases hje : j = e
        · subst hje; simp [hes]
        · rw [getD_set_ne false (Ne.symm hje)]; exact hl j hj hje
    obtain ⟨y, hyL, hye⟩ : ∃ y ∈ L, y ≠ e := by
      cases L with
      | nil => simp at hL
      | cons a L =>
        by_cases ha : a = e
        · cases L with
          | nil => exact absurd (by rw [ha]) hLe
          | cons b L => exact ⟨b, by simp, fun hb => by subst ha; subst hb; simp at hnd⟩
        · exact ⟨a, by simp, ha⟩
    refine ⟨fun hr => ?_, fun i hi => ?_⟩
    · exfalso
      -- the least one that isn't listed is ready
      have key : ∀ n, ∀ i, i ≤ n → i < F → listed.getD i false = true := by
        intro n
        induction n with
        | zero =>
          intro i hin hiF
          obtain rfl : i = 0 := by omega
          cases hl : listed.getD 0 false
          · exfalso
            obtain ⟨o, ho, _⟩ := hat 0 hiF
            have h0 : 0 < ops.size := (Array.getElem?_eq_some_iff.1 ho).1
            have : 0 ∈ Region.ready md ops listed := mem_ready.2 ⟨by simp [hsz, h0] at hl ⊢; exact hl, o, ho, fun e he hb => absurd (hlow 0 o hiF ho e he hb) (by omega)⟩
            rw [hr] at this; cases this
          · rfl
        | succ n ihn =>
          intro i hin hiF
          by_cases h1 : i ≤ n
          · exact ihn i h1 hiF
          · cases hl : listed.getD i false
            · exfalso
              obtain ⟨o, ho, _⟩ := hat i hiF
              have h0 : i < ops.size := (Array.getElem?_eq_some_iff.1 ho).1
              have : i ∈ Region.ready md ops listed := mem_ready.2 ⟨by simp [hsz, h0] at hl ⊢; exact hl, o, ho, fun e he hb => ihn e.on (by have := hlow i o hiF ho e he hb; omega) (by have := hlow i o hiF ho e he hb; omega)⟩
              rw [hr] at this; cases this
            · rfl
      cases L with
      | nil => simp at hL
      | cons x L =>
        obtain ⟨hx, hxl⟩ := (hm x).1 (by simp)
        rw [key x x (Nat.le_refl _) hx] at hxl; cases hxl
    · obtain ⟨hun, oi, hoi, hall⟩ := mem_ready.1 hi
      have hilt : i < ops.size := (Array.getElem?_eq_some_iff.1 hoi).1
      by_cases hiF : i < F
      · obtain ⟨o, ho, hg, hd⟩ := hat i hiF
        obtain rfl : oi = o := Option.some.inj (hoi.symm.trans ho)
        unfold wpOp
        simp only [hoi]
        rw [if_pos (by simp [Region.wanted, hg])]
        refine .inl (wp_noexit ?_)
        obtain ⟨R, hR, hRd⟩ := h.facts
        have hl : ∀ j ∈ D i, j < F ∧ listed.getD j false = true := fun j hj => ⟨(hD i hiF j hj).1, (hD i hiF j hj).2.ready h.closed hi⟩
        refine Oper.wp_mono (fun a' w' hk => ?_) (hop i oi hiF hoi a w ⟨h.ext, h.tm, h.df, h.agree, R, fun j hj => hR j (hl j hj).1 (hl j hj).2, fun j hj k hk hjk => hRd j k (hl j hj).1 (hl k hk).1 hjk (hl j hj).2 (hl k hk).2⟩)
        obtain ⟨v, rfl, hb, hv⟩ := hk
        have hmi : i ∈ L := (hm i).2 ⟨hiF, by cases hq : listed.getD i false with | false => rfl | true => exact absurd hun (getD_tf (by rw [hsz]; exact hilt) hq)⟩
        refine ih (L.erase i) _ _ _ (by rw [List.length_erase_of_mem hmi, hL]; rfl) (hnd.erase i) (fun j => ?_) (h.step hiF hi hinj (hdst i hiF) hD hst hb hv)
        rw [hnd.mem_erase_iff]
        by_cases hji : j = i
        · subst hji
          constructor
          · exact fun hx => absurd rfl hx.1
          · rintro ⟨_, hx⟩; simp [hsz, hilt] at hx
        · rw [getD_set_ne false (Ne.symm hji)]
          constructor
          · exact fun hx => (hm j).1 hx.2
          · exact fun hx => ⟨hji, (hm j).2 hx⟩
      · exfalso
        obtain ⟨hx, hxl⟩ := (hm y).1 hyL
        rw [(htail i (by omega) hilt y hx (fun h => absurd h hye)).ready h.closed hi] at hxl; cases hxl
def chkA3 (ops : Array Oper) (e F : Nat) (dsts : List Tmp) (Ds : List (List Nat)) : Bool :=
  decide (ops.size = F + 2) && decide (dsts.length = F) && decide dsts.Nodup &&
    (List.range F).all (fun i => match ops[i]? with
      | none => false
      | some o => o.guard.isNone && decide (o.dst = some (dsts.getD i 0)) && o.after.toList.all (fun e => !Region.binds .any e || decide (e.on < i)) && (Ds.getD i []).all fun k => decide (k < F) && reach .any ops F i k) &&
    (List.range F).all (fun i => decide (i = e) || reach .any ops (F + 1) F i) && (List.range F).all (fun i => reach .any ops (F + 2) (F + 1) i) && reach .any ops (F + 2) (F + 1) F &&
    (match ops[F]? with | none => false | some o => o.guard.isNone && o.after.toList.all (fun e => !Region.binds .any e || decide (e.on < F))) &&
    (match ops[F + 1]? with | none => false | some o => o.guard.isNone && o.after.toList.all (fun e => !Region.binds .any e || decide (e.on < F + 1))) &&
    decide (e < F) && Region.noSelect ops &&
    (List.range (F + 2)).all (fun j => match ops[j]?, ops[e]? with
      | some oj, some oe => decide (j < F) || oj.after.toList.any (fun x => Region.binds .any x && decide (x.on = e)) || oe.apart ops oj
      | _, _ => true)
/-- **A region that draws its order, two operations at the end, one behind the other, walked by facts.** -/
theorem wp_region_facts3 {id : Nat} {a0 : Act} {w : World} {l : List Oper} (e : Nat) (F : Nat) (dsts : List Tmp) (Ds : List (List Nat)) (V : Facts) (hm : P.follows .mixedOrders = true) (hB : chkA3 l.toArray e F dsts Ds = true) (hsz : ∀ t ∈ dsts, t < a0.tmps.size)
    (hst : ∀ j l v lo hi w w', Below w.heap.size w w' → V j l v lo hi w → V j l v lo hi w')
    (hop : ∀ i o, i < F → l[i]? = some o → ∀ a w', Leans F (fun j => dsts.getD j 0) (fun j => Ds.getD j []) V a0 w.drew i a w' → o.wp P a w' (fun a' w'' => ∃ v, a' = a.put (some (dsts.getD i 0)) v ∧ Below w'.heap.size w' w'' ∧ V i ((Ds.getD i []).map fun k => val a (dsts.getD k 0)) v w'.heap.size w''.heap.size w'') (fun _ _ _ => False))
    (hpure : ∀ oe, l[e]? = some oe → ∀ a w', Leans F (fun j => dsts.getD j 0) (fun j => Ds.getD j []) V a0 w.drew e a w' → ∃ x, (∀ w', (execOp a.eval oe).run P w' = .ok (.value x) w') ∧ V e ((Ds.getD e []).map fun k => val a (dsts.getD k 0)) x w'.heap.size w'.heap.size w')
    (hend : ∀ o o', l[F]? = some o → l[F + 1]? = some o' → ∀ a w', Done F (fun j => dsts.getD j 0) (fun j => Ds.getD j []) V a0 w.drew a w' → o.wp P a w' (fun a w => o'.wp P a w (fun a w => Q' .normal a w) (fun _ _ _ => False)) (fun _ _ _ => False)) : (Code.region id l.toArray true).wp P Q' a0 w := by
  simp only [chkA3, Bool.and_eq_true, decide_eq_true_eq, List.all_eq_true, List.mem_range] at hB
  obtain ⟨⟨⟨⟨⟨⟨⟨⟨⟨⟨⟨hs, hl⟩, hnd⟩, hat⟩, htl⟩, htl2⟩, htl3⟩, hte⟩, hte2⟩, heF⟩, hns⟩, hapB⟩ := hB
  have hlt : ∀ j, j < F → dsts.getD j 0 ∈ dsts := fun j hj => by
    rw [List.getD_eq_getElem?_getD, List.getElem?_eq_getElem (by omega)]; exact List.getElem_mem (by omega)
  have hat' : ∀ i, i < F → ∃ o, l.toArray[i]? = some o ∧ o.guard = none ∧ o.dst = some (dsts.getD i 0) ∧ (∀ e ∈ o.after, Region.binds .any e = true → e.on < i) ∧ ∀ k ∈ Ds.getD i [], k < F ∧ Needs .any l.toArray i k := by
    intro i hi
    have := hat i hi
    cases ho : l.toArray[i]? with
    | none => rw [ho] at this; simp at this
    | some o =>
      rw [ho] at this
      simp only [Bool.and_eq_true, decide_eq_true_eq, List.all_eq_true, Bool.or_eq_true, Bool.not_eq_true', Option.isNone_iff_eq_none] at this
      obtain ⟨⟨⟨h1, h2⟩, h3⟩, h4⟩ := this
      refine ⟨o, rfl, h1, h2, fun e he hb => ?_, fun k hk => ⟨(h4 k hk).1, reach_needs (h4 k hk).2⟩⟩
      rcases h3 e (by simpa using he) with h5 | h5
      · rw [hb] at h5; cases h5
      · exact h5
  refine Code.wp_mono (Q := fun ex a w => ex = .normal ∧ Q' .normal a w) (fun ex a w h => by obtain ⟨rfl, h⟩ := h; exact h) ?_
  refine wp_region_any hm ?_
  have hmain := facts_any3 (P := P) (ops := l.toArray) (md := .any) (F := F) (dst := fun j => dsts.getD j 0) (D := fun j => Ds.getD j []) (V := V) (a0 := a0) (w0 := w.drew) (Q' := fun ex a w => ex = .normal ∧ Q' .normal a w) e heF (Region.noSelect_spec hns) (fun c a w h => by cases h.1) ?hap ?hpu ?_ ?_ ?_ hst ?_ ?_ ?_ ?_ ?_ F (List.range F) (Array.replicate l.toArray.size false) a0 w.drew (by simp) List.nodup_range ?_ ?_
  case hap =>
    intro j oj oe hj hoj hoe hno
    have h1 := hapB j (by have := (Array.getElem?_eq_some_iff.1 hoj).1; omega)
    rw [hoj, hoe] at h1
    simp only [Bool.or_eq_true, decide_eq_true_eq, List.any_eq_true, Bool.and_eq_true] at h1
    rcases h1 with (h1 | ⟨x, hx, hb, he⟩) | h1
    · omega
    · exact absurd he (hno x (by simpa using hx) hb)
    · exact h1
  case hpu => intro oe hoe a w' hle; exact hpure oe (by simpa using hoe) a w' hle
  · rw [show l.toArray.size - F + F = l.toArray.size by omega] at hmain; exact hmain
  · intro j k hj hk e
    have e1 : dsts.getD j 0 = dsts.getD k 0 := e
    rw [List.getD_eq_getElem?_getD, List.getD_eq_getElem?_getD, List.getElem?_eq_getElem (show j < dsts.length by omega), List.getElem?_eq_getElem (show k < dsts.length by omega)] at e1
    simp only [Option.getD_some] at e1
    rcases Nat.lt_trichotomy j k with h | h | h
    · exact absurd e1 (List.pairwise_iff_getElem.1 hnd j k (by omega) (by omega) h)
    · exact h
    · exact absurd e1.symm (List.pairwise_iff_getElem.1 hnd k j (by omega) (by omega) h)
  · exact fun j hj => hsz _ (hlt j hj)
  · intro j hj k hk
    obtain ⟨o, _, _, _, _, h⟩ := hat' j hj
    exact h k hk
  · intro i hi
    obtain ⟨o, h1, h2, h3, _⟩ := hat' i hi
    exact ⟨o, h1, h2, h3⟩
  · intro i o hi ho e he hb
    obtain ⟨o', h1, _, _, h4, _⟩ := hat' i hi
    obtain rfl : o' = o := Option.some.inj (h1.symm.trans ho)
    exact h4 e he hb
  · intro t h1 h2 i hi hie
    rcases (show t = F ∨ t = F + 1 by omega) with rfl | rfl
    · have h5 := htl i hi
      simp only [Bool.or_eq_true, decide_eq_true_eq] at h5
      rcases h5 with h5 | h5
      · exact absurd rfl (hie h5)
      · exact reach_needs h5
    · exact reach_needs (htl2 i hi)
  · intro i o hi ho a w' hle
    exact hop i o hi (by simpa using ho) a w' hle
  · intro listed a w' h hall
    obtain ⟨o, ho⟩ : ∃ o, l.toArray[F]? = some o := ⟨_, Array.getElem?_eq_getElem (by omega)⟩
    rw [ho] at hte
    simp only [Bool.and_eq_true, List.all_eq_true, Bool.or_eq_true, Bool.not_eq_true', decide_eq_true_eq, Option.isNone_iff_eq_none] at hte
    have hFs : F < listed.size := by rw [h.size]; omega
    have hready : F ∈ Region.ready .any l.toArray listed := mem_ready.2 ⟨by have := h.noTail F (Nat.le_refl _); simp [hFs] at this ⊢; exact this, o, ho, fun e he hb => hall _ (by
      rcases hte.2 e (by simpa using he) with h5 | h5
      · rw [hb] at h5; cases h5
      · exact h5)⟩
    obtain ⟨o', ho'⟩ : ∃ o, l.toArray[F + 1]? = some o := ⟨_, Array.getElem?_eq_getElem (by omega)⟩
    rw [ho'] at hte2
    simp only [Bool.and_eq_true, List.all_eq_true, Bool.or_eq_true, Bool.not_eq_true', decide_eq_true_eq, Option.isNone_iff_eq_none] at hte2
    have hFs2 : F + 1 < listed.size := by rw [h.size]; omega
    rw [show l.toArray.size - F = 0 + 1 + 1 by omega]
    refine ⟨fun hr => (by rw [hr] at hready; cases hready), fun i hi => ?_⟩
    obtain ⟨hun, oi, hoi, _⟩ := mem_ready.1 hi
    have hilt : i < l.toArray.size := (Array.getElem?_eq_some_iff.1 hoi).1
    obtain rfl : i = F := by
      by_cases hiF : i < F
      · exact absurd hun (getD_tf (by rw [h.size]; exact hilt) (hall i hiF))
      · rcases (show i = F ∨ i = F + 1 by omega) with e | e
        · exact e
        · subst e
          have h1 := (reach_needs htl3).ready h.closed hi
          have h2 := h.noTail F (Nat.le_refl _)
          rw [h1] at h2; cases h2
    obtain rfl : oi = o := Option.some.inj (hoi.symm.trans ho)
    unfold wpOp
    simp only [hoi]
    rw [if_pos (by simp [Region.wanted, hte.1])]
    have hall2 : ∀ j, j < i + 1 → (listed.setIfInBounds i true).getD j false = true := fun j hj => by
      by_cases hji : j = i
      · subst hji; simp [hFs]
      · rw [getD_set_ne false (Ne.symm hji)]; exact hall j (by omega)
    have hready2 : i + 1 ∈ Region.ready .any l.toArray (listed.setIfInBounds i true) := mem_ready.2 ⟨by
        rw [getD_set_ne true (by omega)]
        have := h.noTail (i + 1) (by omega)
        simp [hFs2] at this ⊢; exact this, o', ho', fun e he hb => hall2 _ (by
      rcases hte2.2 e (by simpa using he) with h5 | h5
      · rw [hb] at h5; cases h5
      · exact h5)⟩
    refine .inl (wp_noexit (Oper.wp_mono (fun a' w'' hk => ?_) (hend oi o' (by simpa using ho) (by simpa using ho') a w' ⟨h.ext, h.tm, h.df, h.agree, ?_⟩)))
    · refine ⟨fun hr => (by rw [hr] at hready2; cases hready2), fun i' hi' => ?_⟩
      obtain ⟨hun', oi', hoi', _⟩ := mem_ready.1 hi'
      have hilt' : i' < l.toArray.size := (Array.getElem?_eq_some_iff.1 hoi').1
      obtain rfl : i' = i + 1 := by
        by_cases hiF : i' < i + 1
        · exact absurd hun' (getD_tf (by simp [h.size]; simpa using hilt') (hall2 i' hiF))
        · omega
      obtain rfl : oi' = o' := Option.some.inj (hoi'.symm.trans ho')
      unfold wpOp
      simp only [hoi']
      rw [if_pos (by simp [Region.wanted, hte2.1])]
      refine .inl (wp_noexit (Oper.wp_mono (fun a2 w2 hk2 => ⟨?_, rfl, hk2⟩) hk))
      refine List.eq_nil_iff_forall_not_mem.2 fun j hj => ?_
      obtain ⟨hun2, oj, hoj, _⟩ := mem_ready.1 hj
      have hjlt : j < l.toArray.size := (Array.getElem?_eq_some_iff.1 hoj).1
      by_cases hji : j = i + 1
      · subst hji; simp [hFs2] at hun2
      · rw [getD_set_ne true (Ne.symm hji)] at hun2
        exact absurd hun2 (getD_tf (by simp [h.size]; simpa using hjlt) (hall2 j (by omega)))
    · obtain ⟨R, h1, h2⟩ := h.facts
      exact ⟨R, fun j hj => h1 j hj (hall j hj), fun j k hj hk hjk => h2 j k hj hk hjk (hall j hj) (hall k hk)⟩
  · intro j
    simp only [List.mem_range]
    constructor
    · intro hj; refine ⟨hj, ?_⟩; simp [Array.getD]
    · exact fun h => h.1
  · refine ⟨by simp, fun k ok hk hl => ?_, ⟨rfl, rfl, rfl, Nat.le_refl _, fun _ _ => rfl⟩, rfl, rfl, fun _ _ => rfl, fun i _ => by simp [Array.getD], fun _ => (0, 0), fun j _ hl => ?_, fun j k _ _ _ hl _ => ?_⟩
    all_goals simp [Array.getD] at hl
end
/-- of each operation but the last two, of the last two -/
def EachG (p : Nat → Oper → Prop) (q : Oper → Oper → Prop) : Nat → List Oper → Prop
  | _, [] => True
  | _, [_] => True
  | _, [o, o'] => q o o'
  | i, o :: o' :: o'' :: l => p i o ∧ EachG p q (i + 1) (o' :: o'' :: l)
theorem EachG.front {p : Nat → Oper → Prop} {q : Oper → Oper → Prop} : ∀ {l : List Oper} {i k : Nat} {o : Oper}, EachG p q i l → k + 2 < l.length → l[k]? = some o → p (i + k) o
  | [], _, _, _, _, hk, _ => by simp at hk
  | [_], _, _, _, _, hk, _ => by simp at hk
  | [_, _], _, _, _, _, hk, _ => absurd hk (by simp)
  | o :: o' :: o'' :: l, i, 0, x, h, _, ho => by simp at ho; subst ho; exact h.1
  | o :: o' :: o'' :: l, i, k + 1, x, h, hk, ho => by
    have := EachG.front (i := i + 1) (k := k) h.2 (by simpa using hk) (by simpa using ho)
    rwa [show i + (k + 1) = i + 1 + k by omega]
theorem EachG.last {p : Nat → Oper → Prop} {q : Oper → Oper → Prop} : ∀ {l : List Oper} {i k : Nat} {o o' : Oper}, EachG p q i l → k + 2 = l.length → l[k]? = some o → l[k + 1]? = some o' → q o o'
  | [], _, _, _, _, _, hk, _, _ => by simp at hk
  | [_], _, _, _, _, _, hk, _, _ => by simp at hk
  | [_, _], _, k, _, _, h, hk, ho, ho' => by
    obtain rfl : k = 0 := by simpa using hk
    simp at ho ho'; subst ho; subst ho'; exact h
  | o :: o' :: o'' :: l, i, 0, x, y, h, hk, ho, ho' => by simp at hk
  | o :: o' :: o'' :: l, i, k + 1, x, y, h, hk, ho, ho' => EachG.last (i := i + 1) (k := k) h.2 (by simpa using hk) (by simpa using ho) (by simpa using ho')
section
variable {P : Program} {a a0 : Act} {w w0 : World}
/-- **A region that draws its order, walked by facts.** -/
theorem wp_facts2 {Q' : Exit → Act → World → Prop} {id : Nat} {a0 : Act} {w : World} {l : List Oper} (F : Nat) (dsts : List Tmp) (Ds : List (List Nat)) (fs : List Fact1) (hm : P.follows .mixedOrders = true) (hB : chkA2 l.toArray F dsts Ds = true) (hsz : ∀ t ∈ dsts, t < a0.tmps.size)
    (hst : ∀ f ∈ fs, Stab f)
    (h : EachG (fun i o => ∀ a w', Finds F dsts Ds fs a0 w.drew i a w' → o.wp P a w' (fun a' w'' => ∃ v, a' = a.put (some (dsts.getD i 0)) v ∧ Below w'.heap.size w' w'' ∧ facts fs i ((Ds.getD i []).map fun k => val a (dsts.getD k 0)) v w'.heap.size w''.heap.size w'') (fun _ _ _ => False))
      (fun o o' => ∀ a w', Ends F dsts Ds fs a0 w.drew a w' → o.wp P a w' (fun a w => o'.wp P a w (fun a w => Q' .normal a w) (fun _ _ _ => False)) (fun _ _ _ => False)) 0 l) : (Code.region id l.toArray true).wp P Q' a0 w := by
  have hB' := hB
  simp only [chkA2, Bool.and_eq_true, decide_eq_true_eq] at hB'
  obtain ⟨⟨⟨⟨⟨⟨⟨⟨hs, hl⟩, _⟩, _⟩, _⟩, _⟩, _⟩, _⟩, _⟩ := hB'
  have hs' : l.length = F + 2 := by simpa using hs
  have hold : ∀ (a : Act), (∀ t, (∀ j, j < F → (fun j => dsts.getD j 0) j ≠ t) → a.tmps[t]? = a0.tmps[t]?) → ∀ t, t ∉ dsts → a.tmps[t]? = a0.tmps[t]? := by
    intro a ha t ht
    refine ha t fun j hj e => ht ?_
    subst e
    show dsts.getD j 0 ∈ dsts
    rw [List.getD_eq_getElem?_getD, List.getElem?_eq_getElem (by omega)]
    exact List.getElem_mem (by omega)
  refine wp_region_facts2 F dsts Ds (facts fs) hm hB hsz (facts_st hst) ?_ ?_
  · intro i o hi ho a w' hle
    obtain ⟨h1, h2, h3, h4, h5⟩ := hle
    have := h.front (k := i) (by omega) ho a w'
    rw [Nat.zero_add] at this
    exact this ⟨h1, h2, h3, hold a h4, h5⟩
  · intro o o' ho ho' a w' hd
    obtain ⟨h1, h2, h3, h4, h5⟩ := hd
    exact h.last (k := F) (by omega) ho ho' a w' ⟨h1, (act_fold a dsts a0 h2.symm h3.symm (hold a h4)).symm, h5⟩
/-- **A region that draws its order, walked by facts.** -/
theorem wp_facts3 {Q' : Exit → Act → World → Prop} {id : Nat} {a0 : Act} {w : World} {l : List Oper} (e : Nat) (F : Nat) (dsts : List Tmp) (Ds : List (List Nat)) (fs : List Fact1) (hm : P.follows .mixedOrders = true) (hB : chkA3 l.toArray e F dsts Ds = true) (hsz : ∀ t ∈ dsts, t < a0.tmps.size)
    (hst : ∀ f ∈ fs, Stab f)
    (hpure : ∀ oe, l[e]? = some oe → ∀ a w', Finds F dsts Ds fs a0 w.drew e a w' → ∃ x, (∀ w', (execOp a.eval oe).run P w' = .ok (.value x) w') ∧ facts fs e ((Ds.getD e []).map fun k => val a (dsts.getD k 0)) x w'.heap.size w'.heap.size w')
    (h : EachG (fun i o => ∀ a w', Finds F dsts Ds fs a0 w.drew i a w' → o.wp P a w' (fun a' w'' => ∃ v, a' = a.put (some (dsts.getD i 0)) v ∧ Below w'.heap.size w' w'' ∧ facts fs i ((Ds.getD i []).map fun k => val a (dsts.getD k 0)) v w'.heap.size w''.heap.size w'') (fun _ _ _ => False))
      (fun o o' => ∀ a w', Ends F dsts Ds fs a0 w.drew a w' → o.wp P a w' (fun a w => o'.wp P a w (fun a w => Q' .normal a w) (fun _ _ _ => False)) (fun _ _ _ => False)) 0 l) : (Code.region id l.toArray true).wp P Q' a0 w := by
  have hB' := hB
  simp only [chkA3, Bool.and_eq_true, decide_eq_true_eq] at hB'
  obtain ⟨⟨⟨⟨⟨⟨⟨⟨⟨⟨⟨hs, hl⟩, _⟩, _⟩, _⟩, _⟩, _⟩, _⟩, _⟩, _⟩, _⟩, _⟩ := hB'
  have hs' : l.length = F + 2 := by simpa using hs
  have hold : ∀ (a : Act), (∀ t, (∀ j, j < F → (fun j => dsts.getD j 0) j ≠ t) → a.tmps[t]? = a0.tmps[t]?) → ∀ t, t ∉ dsts → a.tmps[t]? = a0.tmps[t]? := by
    intro a ha t ht
    refine ha t fun j hj e => ht ?_
    subst e
    show dsts.getD j 0 ∈ dsts
    rw [List.getD_eq_getElem?_getD, List.getElem?_eq_getElem (by omega)]
    exact List.getElem_mem (by omega)
  refine wp_region_facts3 e F dsts Ds (facts fs) hm hB hsz (facts_st hst) ?_ (fun oe hoe a w' hle => hpure oe hoe a w' ⟨hle.1, hle.2.1, hle.2.2.1, hold a hle.2.2.2.1, hle.2.2.2.2⟩) ?_
  · intro i o hi ho a w' hle
    obtain ⟨h1, h2, h3, h4, h5⟩ := hle
    have := h.front (k := i) (by omega) ho a w'
    rw [Nat.zero_add] at this
    exact this ⟨h1, h2, h3, hold a h4, h5⟩
  · intro o o' ho ho' a w' hd
    obtain ⟨h1, h2, h3, h4, h5⟩ := hd
    exact h.last (k := F) (by omega) ho ho' a w' ⟨h1, (act_fold a dsts a0 h2.symm h3.symm (hold a h4)).symm, h5⟩
end
/-- a block of known cells -/
def fC (t : TypeId) (n : Nat) (cs : Array Value) : Fact1 := fun _ v lo hi w => ∃ g, v = .slice (some ⟨g, 0, none⟩) n n ∧ lo ≤ g ∧ g < hi ∧ Blk w g t cs
theorem fC_st (t : TypeId) (n : Nat) (cs : Array Value) : Stab (fC t n cs) := fun _ _ _ _ _ _ hb h => by obtain ⟨g, e, h1, h2, h3⟩ := h; exact ⟨g, e, h1, h2, h3.keep hb⟩
/-- the very value that it leans on -/
def fM : Fact1 := fun l v _ _ _ => v = l.getD 0 undef
theorem fM_st : Stab fM := fun _ _ _ _ _ _ _ h => h
/-- a part of the tuple that it leans on -/
def fX (i : Nat) : Fact1 := fun l v _ _ _ => ∃ xs, l.getD 0 undef = .tuple xs ∧ xs[i]? = some v
theorem fX_st (i : Nat) : Stab (fX i) := fun _ _ _ _ _ _ _ h => h
end MixA
end Go.Proofs.YtebjpmmgdkepjaaGreatDoor
