/-
  Two rules of a machine never occur in one word, in plain Lean; runs with their steps. Nothing of the program.
-/
import Derived.Test.YtcbcjhfeidkeaaaP16
namespace Go.Proofs.Ytcbcjhfeidkeaaa
open Go.RowKit

/-- two left sides that never occur in one word -/
def Dif (r r' : Rw) : Prop := ∀ pre pre' f z, r.1 = pre ++ [f, z] → r'.1 = pre' ++ [f, z] → pre.length = pre'.length ∧ pre ≠ pre'
theorem Dif.symm {r r' : Rw} (h : Dif r r') : Dif r' r := fun pre pre' f z h1 h2 => ⟨(h pre' pre f z h2 h1).1.symm, fun e => (h pre' pre f z h2 h1).2 e.symm⟩
/-- the rules of one entry -/
def EntR (_s : Nat) (e f a : Int) (r : Rw) : Prop := ∃ z, (z = a ∨ (z = e ∧ a = 0)) ∧ (r.1 = [f, z] ∨ ∃ c, r.1 = [c, f, z])
theorem rwOf_ent {s : Nat} {e f a : Int} {rl : Rule3} : ∀ r ∈ rwOf s e f a rl, EntR s e f a r := by
  intro x hx
  unfold rwOf at hx
  split at hx
  · rcases List.mem_cons.1 hx with rfl | hx
    · exact ⟨a, .inl rfl, .inl rfl⟩
    · split at hx
      · rename_i h0
        rw [List.mem_singleton] at hx; subst hx
        exact ⟨e, .inr ⟨rfl, h0⟩, .inl rfl⟩
      · cases hx
  · rcases List.mem_append.1 hx with hx | hx
    · obtain ⟨c, _, rfl⟩ := List.mem_map.1 hx
      exact ⟨a, .inl rfl, .inr ⟨_, rfl⟩⟩
    · rcases List.mem_cons.1 hx with rfl | hx
      · exact ⟨a, .inl rfl, .inr ⟨_, rfl⟩⟩
      · split at hx
        · rename_i h0
          rcases List.mem_append.1 hx with hx | hx
          · obtain ⟨c, _, rfl⟩ := List.mem_map.1 hx
            exact ⟨e, .inr ⟨rfl, h0⟩, .inr ⟨_, rfl⟩⟩
          · rw [List.mem_singleton] at hx; subst hx
            exact ⟨e, .inr ⟨rfl, h0⟩, .inr ⟨_, rfl⟩⟩
        · cases hx
theorem tail2 {pre pre' : List Int} {f z f' z' : Int} (h : pre ++ [f, z] = pre' ++ [f', z']) : pre = pre' ∧ f = f' ∧ z = z' := by
  have h1 := List.append_inj' h rfl
  refine ⟨h1.1, ?_⟩
  have h2 := h1.2
  simp at h2
  exact h2
theorem dif_tail {r r' : Rw} {pre pre' : List Int} {f z f' z' : Int} (h : r.1 = pre ++ [f, z]) (h' : r'.1 = pre' ++ [f', z']) (hd : ¬ (f = f' ∧ z = z')) : Dif r r' := fun q q' g y h1 h2 => by
  have a := tail2 (h.symm.trans h1); have b := tail2 (h'.symm.trans h2)
  exact absurd ⟨a.2.1.trans b.2.1.symm, a.2.2.trans b.2.2.symm⟩ hd
theorem dif_three {r r' : Rw} {c c' f z f' z' : Int} (h : r.1 = [c, f, z]) (h' : r'.1 = [c', f', z']) (hd : c ≠ c' ∨ z ≠ z') : Dif r r' := fun q q' g y h1 h2 => by
  have a := tail2 (pre := [c]) (h.symm.trans h1); have b := tail2 (pre := [c']) (h'.symm.trans h2)
  have hz : z = z' := a.2.2.trans b.2.2.symm
  rw [← a.1, ← b.1]
  refine ⟨rfl, fun e => ?_⟩
  injection e with e
  rcases hd with h5 | h5
  · exact h5 e
  · exact h5 hz
/-- the rules of one entry of the machine -/
theorem rwOf_dif {s : Nat} {e f a : Int} {rl : Rule3} (he : (s : Int) ≤ e) (ha : a ≠ e) : (rwOf s e f a rl).Pairwise Dif := by
  unfold rwOf
  split
  · split
    · refine List.pairwise_cons.2 ⟨fun r hr => ?_, List.pairwise_singleton _ _⟩
      rw [List.mem_singleton] at hr; subst hr
      exact dif_tail (pre := []) (pre' := []) rfl rfl fun h => ha h.2
    · exact List.pairwise_singleton _ _
  · have hmap : ∀ (z : Int) (g : Nat → List Int), ((List.range s).map (fun (c : Nat) => (([(c : Int), f, z], g c) : Rw))).Pairwise Dif := fun z g => by
      refine List.pairwise_map.2 ?_
      refine (List.nodup_range (n := s)).imp fun {c c'} hne => ?_
      refine dif_three rfl rfl (.inl fun h => hne ?_)
      omega
    refine List.pairwise_append.2 ⟨hmap a _, ?_, fun r hr r' hr' => ?_⟩
    · refine List.pairwise_cons.2 ⟨fun r hr => ?_, ?_⟩
      · split at hr
        · rcases List.mem_append.1 hr with hr | hr
          · obtain ⟨c, _, rfl⟩ := List.mem_map.1 hr
            exact dif_three rfl rfl (.inr ha)
          · rw [List.mem_singleton] at hr; subst hr
            exact dif_three rfl rfl (.inr ha)
        · cases hr
      · split
        · refine List.pairwise_append.2 ⟨hmap e _, List.pairwise_singleton _ _, fun r hr r' hr' => ?_⟩
          obtain ⟨c, hc, rfl⟩ := List.mem_map.1 hr
          rw [List.mem_singleton] at hr'; subst hr'
          have := List.mem_range.1 hc
          exact dif_three rfl rfl (.inl (by omega))
        · exact List.Pairwise.nil
    · obtain ⟨c, hc, rfl⟩ := List.mem_map.1 hr
      have hcs := List.mem_range.1 hc
      rcases List.mem_cons.1 hr' with rfl | hr'
      · exact dif_three rfl rfl (.inl (by omega))
      · split at hr'
        · rcases List.mem_append.1 hr' with hr' | hr'
          · obtain ⟨c', _, rfl⟩ := List.mem_map.1 hr'
            exact dif_three rfl rfl (.inr ha)
          · rw [List.mem_singleton] at hr'; subst hr'
            exact dif_three rfl rfl (.inr ha)
        · cases hr'
theorem rwAll_ent {s : Nat} {e : Int} : ∀ {rs : List Rule3} {k : Nat}, ∀ r ∈ rwAll s e k rs, ∃ k', k ≤ k' ∧ k' < k + rs.length ∧ EntR s e ((s : Int) + (k' / s : Nat)) ((k' % s : Nat) : Int) r
  | [], _, r, h => by cases h
  | x :: rs, k, r, h => by
    rw [rwAll] at h
    rcases List.mem_append.1 h with h | h
    · split at h
      · cases h
      · exact ⟨k, Nat.le_refl _, by rw [List.length_cons]; omega, rwOf_ent r h⟩
    · obtain ⟨k', h1, h3, h2⟩ := rwAll_ent r h
      exact ⟨k', by omega, by rw [List.length_cons]; omega, h2⟩
theorem EntR.two {s : Nat} {e f a : Int} {r : Rw} (h : EntR s e f a r) : ∃ z pre, (z = a ∨ (z = e ∧ a = 0)) ∧ r.1 = pre ++ [f, z] := by
  obtain ⟨z, hz, h1 | ⟨c, h1⟩⟩ := h
  · exact ⟨z, [], hz, h1⟩
  · exact ⟨z, [c], hz, h1⟩
theorem rwAll_dif {s : Nat} {e : Int} (hs : 1 ≤ s) (he : (s : Int) ≤ e) : ∀ {rs : List Rule3} {k : Nat}, (rwAll s e k rs).Pairwise Dif
  | [], _ => List.Pairwise.nil
  | x :: rs, k => by
    rw [rwAll]
    have hm : ∀ n : Nat, ((n % s : Nat) : Int) < e := fun n => by have := Nat.mod_lt n (show s > 0 by omega); omega
    refine List.pairwise_append.2 ⟨?_, rwAll_dif hs he, fun r hr r' hr' => ?_⟩
    · split
      · exact List.Pairwise.nil
      · exact rwOf_dif he (by have := hm k; omega)
    · split at hr
      · cases hr
      · obtain ⟨z, pre, hz, h1⟩ := (rwOf_ent r hr).two
        obtain ⟨k', hk, _, hk2⟩ := rwAll_ent r' hr'
        obtain ⟨z', pre', hz', h2⟩ := hk2.two
        refine dif_tail h1 h2 fun h => ?_
        obtain ⟨hf, hzz⟩ := h
        have hq : k / s = k' / s := by omega
        have hmk := hm k; have hmk' := hm k'
        have hr : k % s = k' % s := by omega
        have d1 := Nat.div_add_mod k s; have d2 := Nat.div_add_mod k' s
        rw [hq, hr, d2] at d1
        omega
/-- the state's letter stands last but one -/
def LastB (p : Int → Bool) (r : Rw) : Prop := ∃ pre f z, r.1 = pre ++ [f, z] ∧ OneS p r.1 pre.length
theorem occ_two {p : Int → Bool} {w : List Int} {j a a' : Nat} {r r' : Rw} (hw : OneS p w j) (h : LastB p r) (h' : LastB p r') (hd : Dif r r') (ho : r.1 <+: w.drop a) (ho' : r'.1 <+: w.drop a') : False := by
  obtain ⟨pre, f, z, e, h1⟩ := h
  obtain ⟨pre', f', z', e', h1'⟩ := h'
  have q := hw.occ h1 ho; have q' := hw.occ h1' ho'
  have at_ : ∀ {l : List Int} {b i : Nat} {x : Int}, l <+: w.drop b → l[i]? = some x → w[b + i]? = some x := fun {l b i x} hl hx => by
    obtain ⟨t, ht⟩ := hl
    have : (w.drop b)[i]? = some x := by rw [← ht, List.getElem?_append_left (List.getElem?_eq_some_iff.1 hx).1]; exact hx
    rwa [List.getElem?_drop] at this
  have f1 := at_ ho (i := pre.length) (x := f) (by rw [e, List.getElem?_append_right (Nat.le_refl _)]; simp)
  have f2 := at_ ho' (i := pre'.length) (x := f') (by rw [e', List.getElem?_append_right (Nat.le_refl _)]; simp)
  have z1 := at_ ho (i := pre.length + 1) (x := z) (by rw [e, List.getElem?_append_right (by omega), Nat.add_sub_cancel_left]; simp)
  have z2 := at_ ho' (i := pre'.length + 1) (x := z') (by rw [e', List.getElem?_append_right (by omega), Nat.add_sub_cancel_left]; simp)
  rw [q] at f1; rw [q'] at f2
  rw [show a + (pre.length + 1) = j + 1 by omega] at z1
  rw [show a' + (pre'.length + 1) = j + 1 by omega] at z2
  have ef : f = f' := Option.some.inj (f1.symm.trans f2)
  have ez : z = z' := Option.some.inj (z1.symm.trans z2)
  subst ef; subst ez
  obtain ⟨hl, hne⟩ := hd pre pre' f z e e'
  have haa : a = a' := by omega
  subst haa
  refine hne ?_
  obtain ⟨t, ht⟩ := ho; obtain ⟨t', ht'⟩ := ho'
  have hh : pre ++ ([f, z] ++ t) = pre' ++ ([f, z] ++ t') := by rw [← List.append_assoc, ← List.append_assoc, ← e, ← e', ht, ht']
  exact (List.append_inj hh hl).1
/-- where a rule occurs in a word -/
theorem occ_iff {p : Int → Bool} {w : List Int} {j : Nat} {X : List Rw} {MV : Option (Nat × Nat × List Int)} (hw : OneS p w j) (hX : X.Pairwise Dif) (hl : ∀ r ∈ X, LastB p r) (hm : moveR p w X 0 = MV) :
    ∀ k a r, X[k]? = some r → (r.1 <+: w.drop a ↔ ∃ R, MV = some (k, a, R)) := by
  have hf : ∀ r ∈ X, ∃ i, OneS p r.1 i := fun r hr => by obtain ⟨pre, _, _, _, h⟩ := hl r hr; exact ⟨_, h⟩
  have hru := ruleW_eq hw (k := 0) hf
  intro k a r hr
  have hrm := List.mem_of_getElem? hr
  constructor
  · intro ho
    -- the rule search finds one; it is this
    have key : ∀ (l : List Rw) (k0 : Nat), (∀ r ∈ l, ∃ i, OneS p r.1 i) → r ∈ l → ruleW w l k0 ≠ none := by
      intro l
      induction l with
      | nil => intro k0 _ h; cases h
      | cons x l ih =>
        intro k0 hfl h hn
        rw [ruleW] at hn
        rcases List.mem_cons.1 h with rfl | h
        · cases hx : findW w r.1 (w.length + 1) 0 with
          | some b => rw [hx] at hn; cases hn
          | none =>
            obtain ⟨i, hi⟩ := hf r hrm
            exact findW_none hi.pos hx (by omega) (Nat.zero_le a) ho
        · cases hx : findW w x.1 (w.length + 1) 0 with
          | some b => rw [hx] at hn; cases hn
          | none => rw [hx] at hn; exact ih (k0 + 1) (fun y hy => hfl y (by simp [hy])) h hn
    have hk0 := key X 0 hf hrm
    rw [hru, hm] at hk0
    cases MV with
    | none => exact absurd rfl hk0
    | some x =>
      obtain ⟨k', a', R⟩ := x
      obtain ⟨r', _, hr', ho', _⟩ := moveR_some hm
      rw [Nat.sub_zero] at hr'
      have hkk : k = k' := by
        rcases Nat.lt_trichotomy k k' with h | h | h
        · have h1 := (List.pairwise_iff_getElem.1 hX) k k' (List.getElem?_eq_some_iff.1 hr).1 (List.getElem?_eq_some_iff.1 hr').1 h
          rw [(List.getElem?_eq_some_iff.1 hr).2, (List.getElem?_eq_some_iff.1 hr').2] at h1
          exact absurd (occ_two hw (hl r hrm) (hl r' (List.mem_of_getElem? hr')) h1 ho ho') id
        · exact h
        · have h1 := (List.pairwise_iff_getElem.1 hX) k' k (List.getElem?_eq_some_iff.1 hr').1 (List.getElem?_eq_some_iff.1 hr).1 h
          rw [(List.getElem?_eq_some_iff.1 hr).2, (List.getElem?_eq_some_iff.1 hr').2] at h1
          exact absurd (occ_two hw (hl r' (List.mem_of_getElem? hr')) (hl r hrm) h1 ho' ho) id
      subst hkk
      obtain rfl : r = r' := Option.some.inj (hr.symm.trans hr')
      obtain ⟨i, hi⟩ := hf r hrm
      have q1 := hw.occ hi ho; have q2 := hw.occ hi ho'
      have : a = a' := by omega
      subst this
      exact ⟨R, rfl⟩
  · rintro ⟨R, rfl⟩
    obtain ⟨r', _, hr', ho', _⟩ := moveR_some hm
    rw [Nat.sub_zero] at hr'
    obtain rfl : r = r' := Option.some.inj (hr.symm.trans hr')
    exact ho'
/-- all rules of a machine have their state's letter last but one -/
theorem rwAll_last {s m : Nat} {t : Int} {rs : List Rule3} (hs : 2 ≤ s) (hm : (m : Int) = t) (hr : ∀ r ∈ rs, ruleB s t r = true) (hk : rs.length ≤ s * m) : ∀ x ∈ rwAll s (s + t) 0 rs, LastB (stB s (s + t)) x := by
  intro x hx
  have hg := rwAll_good hs hm hr (k := 0) (by omega) x hx
  obtain ⟨k', _, hk3, hk2⟩ := rwAll_ent x hx
  obtain ⟨z, hz, hc⟩ := hk2
  obtain ⟨i, hi⟩ := hg.fr
  have hd : k' / s < m := Nat.div_lt_of_lt_mul (by omega)
  have hp : stB s (s + t) ((s : Int) + (k' / s : Nat)) = true := by
    obtain ⟨d, hd'⟩ : ∃ d, k' / s = d := ⟨_, rfl⟩
    rw [hd'] at hd ⊢
    exact stB_t (by omega)
  rcases hc with hc | ⟨c, hc⟩
  · rw [hc] at hi
    refine ⟨[], _, z, hc, ?_⟩
    rw [hc]
    have h0 := hi.2 0 _ rfl hp
    rw [← h0] at hi; exact hi
  · rw [hc] at hi
    refine ⟨[c], _, z, hc, ?_⟩
    rw [hc]
    have h0 := hi.2 1 _ rfl hp
    rw [← h0] at hi; exact hi
/-- the run with its steps: the word, the steps, whether there is no further one; none: a word is too long -/
def runL (p : Int → Bool) (l : List Rw) : Nat → List Int → List (Nat × Nat) → Option (List Int × List (Nat × Nat) × Bool)
  | 0, w, n => match moveR p w l 0 with
    | none => some (w, n, true)
    | some _ => some (w, n, false)
  | b + 1, w, n => match moveR p w l 0 with
    | none => some (w, n, true)
    | some x => if x.2.2.length ≤ 400 then runL p l b x.2.2 (n ++ [(x.1, x.2.1)]) else none
def runLK (p : Int → Bool) (l : List Rw) (b : Nat) (w : List Int) (n : List (Nat × Nat)) : Option (Nat × Nat × List Int) → Option (List Int × List (Nat × Nat) × Bool)
  | none => some (w, n, true)
  | some x => if b = 0 then some (w, n, false) else if x.2.2.length ≤ 400 then runL p l (b - 1) x.2.2 (n ++ [(x.1, x.2.1)]) else none
theorem runL_eq (p : Int → Bool) (l : List Rw) (b : Nat) (w : List Int) (n : List (Nat × Nat)) : runL p l b w n = runLK p l b w n (moveR p w l 0) := by
  cases b with
  | zero => rw [runL]; cases moveR p w l 0 <;> rfl
  | succ b => rw [runL]; cases moveR p w l 0 <;> simp [runLK]
theorem runL_runW (p : Int → Bool) (l : List Rw) : ∀ (b : Nat) (w : List Int) (n : List (Nat × Nat)), runW p l b w n.length = (runL p l b w n).map fun x => (x.1, x.2.1.length, x.2.2)
  | 0, w, n => by rw [runW, runL]; cases moveR p w l 0 <;> rfl
  | b + 1, w, n => by
    rw [runW, runL]
    cases moveR p w l 0 with
    | none => rfl
    | some x =>
      simp only
      split
      · have := runL_runW p l b x.2.2 (n ++ [(x.1, x.2.1)])
        rw [List.length_append, List.length_singleton] at this
        exact this
      · rfl
theorem runL_good {s e : Int} {l : List Rw} {b : Nat} {w t : List Int} {m : List (Nat × Nat)} {q : Bool} (hl : ∀ r ∈ l, GoodR s e r) (hw : GoodW s e w) (h4 : w.length ≤ 400) (h : runL (stB s e) l b w [] = some (t, m, q)) : GoodW s e t ∧ t.length ≤ 400 ∧ m.length ≤ b := by
  have h1 := runL_runW (stB s e) l b w []
  rw [h] at h1
  have := runW_good hl hw h4 h1
  exact ⟨this.1, this.2.1, by have := this.2.2.2; simpa using this⟩
end Go.Proofs.Ytcbcjhfeidkeaaa
