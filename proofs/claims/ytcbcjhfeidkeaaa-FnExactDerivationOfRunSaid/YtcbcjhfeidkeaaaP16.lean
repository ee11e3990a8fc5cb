/-
  The rewriting rules of a machine, in plain Lean: a word with one letter of a state; its only step; runs. Nothing of the program.
-/
import Derived.Test.YtcbcjhfeidkeaaaC05c
import Derived.Test.YtcbcjhfeidkeaaaPlain02
namespace Go.Proofs.Ytcbcjhfeidkeaaa
open Go.RowKit

abbrev Rw := List Int × List Int
/-- the letters of the states -/
def stB (sy e x : Int) : Bool := decide (sy ≤ x) && decide (x < e)
theorem stB_t {sy e x : Int} (h : sy ≤ x ∧ x < e) : stB sy e x = true := by simp [stB, h.1, h.2]
theorem stB_f {sy e x : Int} (h : ¬ (sy ≤ x ∧ x < e)) : stB sy e x = false := by
  unfold stB
  by_cases h1 : sy ≤ x
  · have h2 : ¬ x < e := fun h2 => h ⟨h1, h2⟩
    simp [h2]
  · simp [h1]
theorem stB_iff {sy e x : Int} : stB sy e x = true ↔ sy ≤ x ∧ x < e := by simp [stB]
/-- the first index of an element with a property, or -1 -/
def firstS (p : Int → Bool) : Nat → List Int → Int
  | _, [] => -1
  | k, x :: l => if p x then k else firstS p (k + 1) l
/-- one element has the property: the one at i -/
def OneS (p : Int → Bool) (l : List Int) (i : Nat) : Prop := (∃ x, l[i]? = some x ∧ p x = true) ∧ ∀ j y, l[j]? = some y → p y = true → j = i
theorem firstS_one {p : Int → Bool} : ∀ {l : List Int} {i k : Nat}, OneS p l i → firstS p k l = ((k + i : Nat) : Int)
  | [], i, k, h => by obtain ⟨⟨x, hx, _⟩, _⟩ := h; simp at hx
  | y :: l, i, k, h => by
    obtain ⟨⟨x, hx, hp⟩, hu⟩ := h
    rw [firstS]
    cases hy : p y with
    | true =>
      have := hu 0 y rfl hy
      rw [if_pos rfl, ← this]; simp
    | false =>
      rw [if_neg (by simp)]
      cases i with
      | zero => simp at hx; subst hx; rw [hy] at hp; cases hp
      | succ i =>
        rw [firstS_one (i := i) ⟨⟨x, by simpa using hx, hp⟩, fun j z hz hpz => by have := hu (j + 1) z (by simpa using hz) hpz; omega⟩]
        congr 1; omega
/-- the replaced part has one, too -/
theorem OneS.put {p : Int → Bool} {w fr to : List Int} {j i i' a : Nat} (hw : OneS p w j) (hf : OneS p fr i) (ht : OneS p to i') (hat : fr <+: w.drop a) : OneS p (w.take a ++ (to ++ w.drop (a + fr.length))) (a + i') := by
  obtain ⟨⟨x, hx, hpx⟩, hfu⟩ := hf
  obtain ⟨⟨y, hy, hpy⟩, htu⟩ := ht
  obtain ⟨r, hr⟩ := hat
  have hil : i < fr.length := (List.getElem?_eq_some_iff.1 hx).1
  have hwx : w[a + i]? = some x := by
    have : (w.drop a)[i]? = some x := by rw [← hr, List.getElem?_append_left hil]; exact hx
    rwa [List.getElem?_drop] at this
  have hji : a + i = j := hw.2 _ _ hwx hpx
  have hal : a ≤ w.length := by have := (List.getElem?_eq_some_iff.1 hwx).1; omega
  have htl : (w.take a).length = a := by rw [List.length_take]; omega
  refine ⟨⟨y, ?_, hpy⟩, fun k z hz hpz => ?_⟩
  · rw [List.getElem?_append_right (by omega), htl, Nat.add_sub_cancel_left, List.getElem?_append_left (List.getElem?_eq_some_iff.1 hy).1]; exact hy
  · rcases Nat.lt_or_ge k a with h1 | h1
    · rw [List.getElem?_append_left (by omega), List.getElem?_take_of_lt h1] at hz
      have := hw.2 _ _ hz hpz; omega
    · rw [List.getElem?_append_right (by omega), htl] at hz
      rcases Nat.lt_or_ge (k - a) to.length with h2 | h2
      · rw [List.getElem?_append_left h2] at hz
        have := htu _ _ hz hpz; omega
      · rw [List.getElem?_append_right h2, List.getElem?_drop] at hz
        have := hw.2 _ _ hz hpz; omega
/-- where a part occurs -/
theorem OneS.occ {p : Int → Bool} {w fr : List Int} {j i a : Nat} (hw : OneS p w j) (hf : OneS p fr i) (hat : fr <+: w.drop a) : a + i = j := by
  obtain ⟨⟨x, hx, hpx⟩, _⟩ := hf
  obtain ⟨r, hr⟩ := hat
  have hil : i < fr.length := (List.getElem?_eq_some_iff.1 hx).1
  have hwx : w[a + i]? = some x := by
    have : (w.drop a)[i]? = some x := by rw [← hr, List.getElem?_append_left hil]; exact hx
    rwa [List.getElem?_drop] at this
  exact hw.2 _ _ hwx hpx
/-- one rule of the machine; f: the letter of its state, a: its symbol -/
def rwOf (s : Nat) (e f a : Int) (r : Rule3) : List Rw :=
  if r.2.1 = 1 then ([f, a], [r.1, s + r.2.2]) :: (if a = 0 then [([f, e], [r.1, s + r.2.2, e])] else [])
  else (List.range s).map (fun (c : Nat) => (([(c : Int), f, a], [(s : Int) + r.2.2, c, r.1]) : Rw)) ++ (([e, f, a], [e, s + r.2.2, 0, r.1]) ::
    (if a = 0 then (List.range s).map (fun (c : Nat) => (([(c : Int), f, e], [(s : Int) + r.2.2, c, r.1, e]) : Rw)) ++ [([e, f, e], [e, s + r.2.2, 0, r.1, e])] else []))
def rwAll (s : Nat) (e : Int) : Nat → List Rule3 → List Rw
  | _, [] => []
  | k, r :: l => (if r = noneR then [] else rwOf s e ((s : Int) + (k / s : Nat)) ((k % s : Nat) : Int) r) ++ rwAll s e (k + 1) l
/-- a rule as it must be -/
structure GoodR (s : Int) (e : Int) (r : Rw) : Prop where
  fr : ∃ i, OneS (stB s e) r.1 i
  to : ∃ i, OneS (stB s e) r.2 i
  ltr : ∀ x ∈ r.1 ++ r.2, 0 ≤ x ∧ x ≤ e
  sz : r.1.length ≤ 5 ∧ r.2.length ≤ 5
theorem oneS_1 {p : Int → Bool} {a b c : Int} (ha : p a = false) (hb : p b = true) (hc : p c = false) : OneS p [a, b, c] 1 := by
  refine ⟨⟨b, rfl, hb⟩, fun j y hy hp => ?_⟩
  match j, hy with
  | 0, hy => simp at hy; subst hy; rw [ha] at hp; cases hp
  | 1, _ => rfl
  | 2, hy => simp at hy; subst hy; rw [hc] at hp; cases hp
  | j + 3, hy => simp at hy
theorem OneS.cons {p : Int → Bool} {l : List Int} {i : Nat} {a : Int} (h : OneS p l i) (ha : p a = false) : OneS p (a :: l) (i + 1) := by
  obtain ⟨⟨x, hx, hp⟩, hu⟩ := h
  refine ⟨⟨x, by simpa using hx, hp⟩, fun j y hy hpy => ?_⟩
  cases j with
  | zero => simp at hy; subst hy; rw [ha] at hpy; cases hpy
  | succ j => have := hu j y (by simpa using hy) hpy; omega
theorem OneS.head {p : Int → Bool} {l : List Int} {a : Int} (ha : p a = true) (hl : ∀ x ∈ l, p x = false) : OneS p (a :: l) 0 := by
  refine ⟨⟨a, rfl, ha⟩, fun j y hy hpy => ?_⟩
  cases j with
  | zero => rfl
  | succ j => rw [hl y (List.mem_of_getElem? (by simpa using hy))] at hpy; cases hpy
theorem OneS.app {p : Int → Bool} {a l : List Int} {i : Nat} (ha : ∀ x ∈ a, p x = false) (h : OneS p l i) : OneS p (a ++ l) (a.length + i) := by
  induction a with
  | nil => simpa using h
  | cons x a ih =>
    have := (ih fun y hy => ha y (by simp [hy])).cons (ha x (by simp))
    rw [List.cons_append, List.length_cons, show a.length + 1 + i = a.length + i + 1 by omega]; exact this
theorem rwOf_good {s : Nat} {t f a : Int} {r : Rule3} (hs : 2 ≤ s) (hf : (s : Int) ≤ f ∧ f < s + t) (ha : 0 ≤ a ∧ a < s) (hr : ruleB s t r = true) (hn : r ≠ noneR) : ∀ x ∈ rwOf s (s + t) f a r, GoodR s (s + t) x := by
  obtain ⟨b, mv, nx⟩ := r
  have hr' : (0 ≤ b ∧ b ≤ (s : Int) - 1) ∧ (0 ≤ nx ∧ nx ≤ t - 1) := by
    simp only [ruleB, Bool.or_eq_true, Bool.and_eq_true, decide_eq_true_eq] at hr
    rcases hr with hr | ⟨⟨h1, _⟩, h2⟩
    · exact absurd hr hn
    · exact ⟨inB_t h1, inB_t h2⟩
  have pf : stB s (s + t) f = true := stB_t hf
  have pt : stB s (s + t) (s + nx) = true := stB_t (by omega)
  have pa : stB s (s + t) a = false := stB_f (by omega)
  have pb : stB s (s + t) b = false := stB_f (by omega)
  have pe : stB s (s + t) (s + t) = false := stB_f (by omega)
  have p0 : stB s (s + t) 0 = false := stB_f (by omega)
  intro x hx
  unfold rwOf at hx
  simp only at hx
  split at hx
  · rcases List.mem_cons.1 hx with rfl | hx
    · exact ⟨⟨0, OneS.head pf (by simp [pa])⟩, ⟨1, (OneS.head pt (by simp)).cons pb⟩, (by intro y hy; simp at hy; omega), by simp⟩
    · split at hx
      · rw [List.mem_singleton] at hx; subst hx
        exact ⟨⟨0, OneS.head pf (by simp [pe])⟩, ⟨1, (OneS.head pt (by simp [pe])).cons pb⟩, (by intro y hy; simp at hy; omega), by simp⟩
      · cases hx
  · rcases List.mem_append.1 hx with hx | hx
    · obtain ⟨c, hc, rfl⟩ := List.mem_map.1 hx
      have hcs := List.mem_range.1 hc
      have pc : stB s (s + t) (c : Int) = false := stB_f (by omega)
      exact ⟨⟨1, (OneS.head pf (by simp [pa])).cons pc⟩, ⟨0, OneS.head pt (by simp [pc, pb])⟩, (by intro y hy; simp at hy; omega), by simp⟩
    · rcases List.mem_cons.1 hx with rfl | hx
      · exact ⟨⟨1, (OneS.head pf (by simp [pa])).cons pe⟩, ⟨1, (OneS.head pt (by simp [p0, pb])).cons pe⟩, (by intro y hy; simp at hy; omega), by simp⟩
      · split at hx
        · rcases List.mem_append.1 hx with hx | hx
          · obtain ⟨c, hc, rfl⟩ := List.mem_map.1 hx
            have hcs := List.mem_range.1 hc
            have pc : stB s (s + t) (c : Int) = false := stB_f (by omega)
            exact ⟨⟨1, (OneS.head pf (by simp [pe])).cons pc⟩, ⟨0, OneS.head pt (by simp [pc, pb, pe])⟩, (by intro y hy; simp at hy; omega), by simp⟩
          · rw [List.mem_singleton] at hx; subst hx
            exact ⟨⟨1, (OneS.head pf (by simp [pe])).cons pe⟩, ⟨1, (OneS.head pt (by simp [p0, pb, pe])).cons pe⟩, (by intro y hy; simp at hy; omega), by simp⟩
        · cases hx
theorem rwAll_good {s m : Nat} {t : Int} (hs : 2 ≤ s) : ∀ {rs : List Rule3} {k : Nat}, (m : Int) = t → (∀ r ∈ rs, ruleB s t r = true) → k + rs.length ≤ s * m → ∀ x ∈ rwAll s (s + t) k rs, GoodR s (s + t) x
  | [], _, _, _, _, x, hx => by simp [rwAll] at hx
  | r :: rs, k, hm, hr, hk, x, hx => by
    rw [rwAll] at hx
    rw [List.length_cons] at hk
    rcases List.mem_append.1 hx with hx | hx
    · split at hx
      · cases hx
      · rename_i hn
        have h1 : k / s < m := Nat.div_lt_of_lt_mul (by omega)
        have h2 : k % s < s := Nat.mod_lt _ (by omega)
        obtain ⟨q, hq⟩ : ∃ q, k / s = q := ⟨_, rfl⟩
        obtain ⟨z, hz⟩ : ∃ z, k % s = z := ⟨_, rfl⟩
        rw [hq, hz] at hx
        rw [hq] at h1; rw [hz] at h2
        exact rwOf_good hs (by omega) (by omega) (hr r (by simp)) hn x hx
    · exact rwAll_good hs hm (fun y hy => hr y (by simp [hy])) (by omega) x hx
/-- the first rule that occurs at the state's letter: its index, its place, the word behind it -/
def moveR (p : Int → Bool) (w : List Int) : List Rw → Nat → Option (Nat × Nat × List Int)
  | [], _ => none
  | r :: l, k => if 0 ≤ firstS p 0 w - firstS p 0 r.1 ∧ r.1 <+: w.drop (firstS p 0 w - firstS p 0 r.1).toNat then
      some (k, (firstS p 0 w - firstS p 0 r.1).toNat, w.take (firstS p 0 w - firstS p 0 r.1).toNat ++ (r.2 ++ w.drop ((firstS p 0 w - firstS p 0 r.1).toNat + r.1.length)))
    else moveR p w l (k + 1)
/-- the first place at which a part occurs -/
def findW (w fr : List Int) : Nat → Nat → Option Nat
  | 0, _ => none
  | f + 1, a => if a + fr.length ≤ w.length then (if fr <+: w.drop a then some a else findW w fr f (a + 1)) else none
/-- the first rule that occurs somewhere -/
def ruleW (w : List Int) : List Rw → Nat → Option (Nat × Nat)
  | [], _ => none
  | r :: l, k => match findW w r.1 (w.length + 1) 0 with
    | some a => some (k, a)
    | none => ruleW w l (k + 1)
theorem findW_some {w fr : List Int} : ∀ {f a b : Nat}, findW w fr f a = some b → a ≤ b ∧ b + fr.length ≤ w.length ∧ fr <+: w.drop b
  | 0, a, b, h => by cases h
  | f + 1, a, b, h => by
    rw [findW] at h
    split at h
    · split at h
      · injection h with h; subst h; exact ⟨Nat.le_refl _, by assumption, by assumption⟩
      · obtain ⟨h1, h2, h3⟩ := findW_some h; exact ⟨by omega, h2, h3⟩
    · cases h
theorem findW_none {w fr : List Int} (h0 : 1 ≤ fr.length) : ∀ {f a b : Nat}, findW w fr f a = none → w.length < a + f → a ≤ b → ¬ fr <+: w.drop b
  | 0, a, b, h, hl, hab => by
    intro hp
    have := hp.length_le
    rw [List.length_drop] at this
    omega
  | f + 1, a, b, h, hl, hab => by
    rw [findW] at h
    split at h
    · split at h
      · cases h
      · rename_i h2
        rcases Nat.eq_or_lt_of_le hab with rfl | hlt
        · exact h2
        · exact findW_none h0 h (by omega) hlt
    · rename_i h1
      intro hp
      have := hp.length_le
      rw [List.length_drop] at this
      omega
theorem OneS.pos {p : Int → Bool} {l : List Int} {i : Nat} (h : OneS p l i) : 1 ≤ l.length := by
  obtain ⟨⟨x, hx, _⟩, _⟩ := h
  have := (List.getElem?_eq_some_iff.1 hx).1; omega
/-- both find the same rule, at the same place -/
theorem ruleW_eq {p : Int → Bool} {w : List Int} {j : Nat} (hw : OneS p w j) : ∀ {l : List Rw} {k : Nat}, (∀ r ∈ l, ∃ i, OneS p r.1 i) → ruleW w l k = (moveR p w l k).map fun x => (x.1, x.2.1)
  | [], k, _ => rfl
  | r :: l, k, h => by
    obtain ⟨i, hi⟩ := h r (by simp)
    have e1 : firstS p 0 w = (j : Int) := by rw [firstS_one hw]; omega
    have e2 : firstS p 0 r.1 = (i : Int) := by rw [firstS_one hi]; omega
    rw [ruleW, moveR, e1, e2]
    cases hf : findW w r.1 (w.length + 1) 0 with
    | some a =>
      obtain ⟨_, _, h3⟩ := findW_some hf
      have := hw.occ hi h3
      rw [if_pos ⟨by omega, by rw [show ((j : Int) - (i : Int)).toNat = a by omega]; exact h3⟩, show ((j : Int) - (i : Int)).toNat = a by omega]; rfl
    | none =>
      rw [if_neg (fun h4 => findW_none hi.pos hf (by omega) (Nat.zero_le _) h4.2)]
      exact ruleW_eq hw fun r hr => h r (by simp [hr])
theorem moveR_some {p : Int → Bool} {w : List Int} : ∀ {l : List Rw} {k k' a : Nat} {w' : List Int}, moveR p w l k = some (k', a, w') → ∃ r, k ≤ k' ∧ l[k' - k]? = some r ∧ r.1 <+: w.drop a ∧ w' = w.take a ++ (r.2 ++ w.drop (a + r.1.length))
  | [], k, k', a, w', h => by cases h
  | r :: l, k, k', a, w', h => by
    rw [moveR] at h
    split at h
    · rename_i hc
      injection h with h
      injection h with h1 h2
      injection h2 with h2 h3
      subst h1
      rw [h2] at hc h3
      exact ⟨r, Nat.le_refl _, by simp, hc.2, h3.symm⟩
    · obtain ⟨r', h1, h2, h3, h4⟩ := moveR_some h
      refine ⟨r', by omega, ?_, h3, h4⟩
      rw [show k' - k = (k' - (k + 1)) + 1 by omega, List.getElem?_cons_succ]; exact h2
/-- a word that shows a configuration: one letter of a state, all letters below the border's -/
structure GoodW (s e : Int) (w : List Int) : Prop where
  one : ∃ j, OneS (stB s e) w j
  ltr : ∀ x ∈ w, 0 ≤ x ∧ x ≤ e
theorem GoodW.move {s e : Int} {w : List Int} {l : List Rw} {k a : Nat} {w' : List Int} (h : GoodW s e w) (hl : ∀ r ∈ l, GoodR s e r) (hm : moveR (stB s e) w l 0 = some (k, a, w')) : GoodW s e w' := by
  obtain ⟨r, _, hr, hp, rfl⟩ := moveR_some hm
  have hg := hl r (List.mem_of_getElem? hr)
  obtain ⟨j, hj⟩ := h.one
  obtain ⟨i, hi⟩ := hg.fr
  obtain ⟨i', hi'⟩ := hg.to
  refine ⟨⟨_, hj.put hi hi' hp⟩, fun x hx => ?_⟩
  rcases List.mem_append.1 hx with hx | hx
  · exact h.ltr x (List.mem_of_mem_take hx)
  · rcases List.mem_append.1 hx with hx | hx
    · exact hg.ltr x (by simp [hx])
    · exact h.ltr x (List.mem_of_mem_drop hx)
/-- the run: the word, the steps, whether there is no further one; none: a word is too long -/
def runW (p : Int → Bool) (l : List Rw) : Nat → List Int → Nat → Option (List Int × Nat × Bool)
  | 0, w, n => match moveR p w l 0 with
    | none => some (w, n, true)
    | some _ => some (w, n, false)
  | b + 1, w, n => match moveR p w l 0 with
    | none => some (w, n, true)
    | some x => if x.2.2.length ≤ 400 then runW p l b x.2.2 (n + 1) else none
def runWK (p : Int → Bool) (l : List Rw) (b : Nat) (w : List Int) (n : Nat) : Option (Nat × Nat × List Int) → Option (List Int × Nat × Bool)
  | none => some (w, n, true)
  | some x => if b = 0 then some (w, n, false) else if x.2.2.length ≤ 400 then runW p l (b - 1) x.2.2 (n + 1) else none
theorem runW_eq (p : Int → Bool) (l : List Rw) (b : Nat) (w : List Int) (n : Nat) : runW p l b w n = runWK p l b w n (moveR p w l 0) := by
  cases b with
  | zero => rw [runW]; cases moveR p w l 0 <;> rfl
  | succ b => rw [runW]; cases moveR p w l 0 <;> simp [runWK]
theorem runW_good {s e : Int} {l : List Rw} (hl : ∀ r ∈ l, GoodR s e r) : ∀ {b : Nat} {w : List Int} {n : Nat} {t : List Int} {m : Nat} {q : Bool}, GoodW s e w → w.length ≤ 400 → runW (stB s e) l b w n = some (t, m, q) → GoodW s e t ∧ t.length ≤ 400 ∧ n ≤ m ∧ m ≤ n + b
  | 0, w, n, t, m, q, hw, h4, h => by
    rw [runW_eq] at h
    cases hf : moveR (stB s e) w l 0 with
    | none => rw [hf] at h; simp [runWK] at h; obtain ⟨rfl, rfl, _⟩ := h; exact ⟨hw, h4, by omega, by omega⟩
    | some x => rw [hf] at h; simp [runWK] at h; obtain ⟨rfl, rfl, _⟩ := h; exact ⟨hw, h4, by omega, by omega⟩
  | b + 1, w, n, t, m, q, hw, h4, h => by
    rw [runW_eq] at h
    cases hf : moveR (stB s e) w l 0 with
    | none => rw [hf] at h; simp [runWK] at h; obtain ⟨rfl, rfl, _⟩ := h; exact ⟨hw, h4, by omega, by omega⟩
    | some x =>
      obtain ⟨k, a, w'⟩ := x
      rw [hf] at h
      simp only [runWK, Nat.add_sub_cancel] at h
      rw [if_neg (by omega)] at h
      split at h
      · rename_i hs
        have := runW_good hl (hw.move hl hf) hs h
        exact ⟨this.1, this.2.1, by omega, by omega⟩
      · cases h
/-- the word of a configuration -/
def wordW (s e q : Int) (xs ys : List Int) : List Int := e :: (xs.reverse ++ ((s + q) :: (ys ++ [e])))
theorem wordW_good {s e q : Int} {xs ys : List Int} (hs : 1 ≤ s) (hq : 0 ≤ q ∧ s + q < e) (hx : ∀ x ∈ xs, 0 ≤ x ∧ x < s) (hy : ∀ x ∈ ys, 0 ≤ x ∧ x < s) : GoodW s e (wordW s e q xs ys) := by
  have pe : stB s e e = false := stB_f (by omega)
  refine ⟨⟨_, OneS.cons (OneS.app (i := 0) (fun x hx' => stB_f (by have := hx x (List.mem_reverse.1 hx'); omega)) (OneS.head (stB_t (by omega)) ?_)) pe⟩, fun x hx' => ?_⟩
  · intro x hx'
    rcases List.mem_append.1 hx' with h | h
    · exact stB_f (by have := hy x h; omega)
    · rw [List.mem_singleton] at h; subst h; exact pe
  · simp only [wordW, List.mem_cons, List.mem_append, List.mem_reverse, List.not_mem_nil, or_false] at hx'
    rcases hx' with rfl | hx' | rfl | hx' | rfl
    · omega
    · have := hx x hx'; omega
    · omega
    · have := hy x hx'; omega
    · omega
/-- the configuration that a word shows: the program's way -/
def cellsW (w : List Int) : List Int := (w.drop 1).take (w.length - 2)
def frameB (e : Int) (w : List Int) : Bool := decide (3 ≤ w.length) && decide (w[0]? = some e) && decide (w[w.length - 1]? = some e)
def confW (s e : Int) (c : List Int) (at_ : Int) : Option (Int × List Int × List Int) :=
  if at_ < 0 then none
  else if ((c[at_.toNat]?).getD 0) < e ∧ allB 0 (s - 1) (c.drop (at_.toNat + 1)) = true then some ((c[at_.toNat]?).getD 0 - s, trimL (c.take at_.toNat).reverse, trimL (c.drop (at_.toNat + 1)))
  else none
def shownW (s e : Int) (w : List Int) : Option (Int × List Int × List Int) :=
  if frameB e w = true then confW s e (cellsW w) (firstS (fun x => decide (s ≤ x)) 0 (cellsW w)) else none
/-- both sides short enough -/
def roomyB (c : Int × List Int × List Int) : Bool := decide (c.2.1.length ≤ 200) && decide (c.2.2.length ≤ 200)
/-- the reference's way: a scan for the state's letter -/
def scanW (s e : Int) : List Int → Nat → Int → Option Int
  | [], _, a => some a
  | x :: l, i, a => if s ≤ x ∧ (0 ≤ a ∨ e ≤ x) then none else scanW s e l (i + 1) (if s ≤ x then i else a)
theorem scanW_all {s e : Int} : ∀ {l : List Int} {i : Nat} {a : Int}, 0 ≤ a → scanW s e l i a = if l.all (fun x => decide (x < s)) = true then some a else none
  | [], i, a, h => by simp [scanW]
  | x :: l, i, a, h => by
    rw [scanW]
    by_cases hx : s ≤ x
    · rw [if_pos ⟨hx, .inl h⟩, if_neg (by rw [List.all_cons]; simp; omega)]
    · rw [if_neg (fun h1 => hx h1.1), if_neg hx, scanW_all h, List.all_cons, show decide (x < s) = true by simp; omega, Bool.true_and]
/-- behind the scan -/
theorem scanW_eq {s e : Int} : ∀ {l : List Int} {i : Nat}, scanW s e l i (-1) = if firstS (fun x => decide (s ≤ x)) i l < 0 then some (-1) else if ((l[(firstS (fun x => decide (s ≤ x)) i l).toNat - i]?).getD 0) < e ∧ (l.drop ((firstS (fun x => decide (s ≤ x)) i l).toNat - i + 1)).all (fun x => decide (x < s)) = true then some (firstS (fun x => decide (s ≤ x)) i l) else none
  | [], i => by simp [scanW, firstS]
  | x :: l, i => by
    rw [scanW, firstS]
    by_cases hx : s ≤ x
    · rw [if_pos (show decide (s ≤ x) = true by simpa using hx), if_pos hx, if_neg (show ¬ ((i : Int) < 0) by omega)]
      rw [show ((i : Int)).toNat - i = 0 by omega]
      rw [List.getElem?_cons_zero, Option.getD_some, List.drop_succ_cons, List.drop_zero]
      by_cases he : e ≤ x
      · rw [if_pos ⟨hx, .inr he⟩, if_neg (fun h => by omega)]
      · rw [if_neg (fun h => by omega), scanW_all (by omega)]
        by_cases hl : l.all (fun x => decide (x < s)) = true
        · rw [if_pos hl, if_pos ⟨by omega, hl⟩]
        · rw [if_neg hl, if_neg (fun h => hl h.2)]
    · rw [if_neg (show ¬ decide (s ≤ x) = true by simpa using hx), if_neg (fun h => hx h.1), if_neg hx, scanW_eq]
      have hge : ∀ (l : List Int) (i : Nat), firstS (fun x => decide (s ≤ x)) i l = -1 ∨ (i : Int) ≤ firstS (fun x => decide (s ≤ x)) i l := by
        intro l
        induction l with
        | nil => intro i; exact .inl rfl
        | cons y l ih =>
          intro i
          rw [firstS]
          split
          · exact .inr (Int.le_refl _)
          · rcases ih (i + 1) with h | h
            · exact .inl h
            · exact .inr (by omega)
      rcases hge l (i + 1) with h | h
      · rw [h]; simp
      · obtain ⟨m, hm⟩ : ∃ m : Nat, firstS (fun x => decide (s ≤ x)) (i + 1) l = ((i + 1 + m : Nat) : Int) := ⟨(firstS (fun x => decide (s ≤ x)) (i + 1) l).toNat - (i + 1), by omega⟩
        rw [hm, if_neg (show ¬ ((i + 1 + m : Nat) : Int) < 0 by omega), if_neg (show ¬ ((i + 1 + m : Nat) : Int) < 0 by omega), Int.toNat_natCast, show i + 1 + m - (i + 1) = m by omega, show i + 1 + m - i = m + 1 by omega]
        simp only [List.getElem?_cons_succ, List.drop_succ_cons]

/-- the configuration that a word shows: the reference's way, without the last check -/
def cfgA (s : Int) (w : List Int) (a : Nat) : Int × List Int × List Int :=
  ((w[a]?).getD 0 - s, trimL ((w.drop 1).take (a - 1)).reverse, trimL ((w.drop (a + 1)).take (w.length - 1 - (a + 1))))
def cfgK (s : Int) (w : List Int) : Option Int → Option (Int × List Int × List Int)
  | none => none
  | some a => if a < 0 then none else some (cfgA s w a.toNat)
def cfgS (s e : Int) (w : List Int) : Option (Int × List Int × List Int) := if frameB e w = true then cfgK s w (scanW s e (cellsW w) 1 (-1)) else none
theorem firstS_find {p : Int → Bool} : ∀ (l : List Int) (i : Nat), (firstS p i l = -1 ∧ firstS p (i + 1) l = -1) ∨ ∃ k x, firstS p i l = ((i + k : Nat) : Int) ∧ firstS p (i + 1) l = ((i + 1 + k : Nat) : Int) ∧ l[k]? = some x ∧ p x = true ∧ ∀ y ∈ l.take k, p y = false
  | [], i => .inl ⟨rfl, rfl⟩
  | x :: l, i => by
    rw [firstS, firstS]
    cases hp : p x with
    | true => exact .inr ⟨0, x, by simp, by simp, rfl, hp, by simp⟩
    | false =>
      rw [if_neg (by simp), if_neg (by simp)]
      rcases firstS_find l (i + 1) with ⟨h, h'⟩ | ⟨k, y, h, h', hy, hpy, hk⟩
      · exact .inl ⟨h, h'⟩
      · refine .inr ⟨k + 1, y, by rw [h]; omega, by rw [h']; omega, by simpa using hy, hpy, fun z hz => ?_⟩
        rw [List.take_succ_cons] at hz
        rcases List.mem_cons.1 hz with rfl | hz
        · exact hp
        · exact hk z hz
theorem trimW_mem {xs : List Int} {x : Int} (h : x ∈ trimL xs) : x ∈ xs := by
  rw [trimL_take] at h; exact List.mem_of_mem_take h
theorem trimW_last (xs : List Int) : lastB (trimL xs) = true := by
  have h : ∀ ys : List Int, lastB (ys.dropWhile (· == 0)).reverse = true := by
    intro ys
    induction ys with
    | nil => rfl
    | cons y l ih =>
      rw [List.dropWhile_cons]
      split
      · exact ih
      · rename_i hy
        unfold lastB
        rw [List.reverse_cons, List.length_append, List.length_reverse]
        simp only [List.length_singleton, Nat.add_sub_cancel, List.getD_eq_getElem?_getD]
        rw [List.getElem?_append_right (by simp)]
        simp only [List.length_reverse, Nat.sub_self, List.getElem?_cons_zero, Option.getD_some]
        simpa using hy
  exact h xs.reverse
theorem allB_ofW {lo hi : Int} : ∀ {xs : List Int}, (∀ x ∈ xs, lo ≤ x ∧ x ≤ hi) → allB lo hi xs = true
  | [], _ => rfl
  | x :: l, h => by rw [allB, inB_of (h x (by simp)).1 (h x (by simp)).2, allB_ofW fun y hy => h y (by simp [hy])]; rfl
theorem sideW_trim {s : Int} {xs : List Int} (h : ∀ x ∈ xs, 0 ≤ x ∧ x ≤ s - 1) : sideB s 200 (trimL xs) = decide ((trimL xs).length ≤ 200) := by
  unfold sideB
  rw [trimW_last, allB_ofW fun x hx => h x (trimW_mem hx), Bool.and_true, Bool.and_true]
  by_cases h2 : (trimL xs).length ≤ 200
  · rw [decide_eq_true h2, decide_eq_true (by omega)]
  · rw [decide_eq_false h2, decide_eq_false (by omega)]
theorem all_allB {s : Int} : ∀ {l : List Int}, (∀ x ∈ l, 0 ≤ x) → l.all (fun x => decide (x < s)) = allB 0 (s - 1) l
  | [], _ => rfl
  | x :: l, h => by
    rw [List.all_cons, allB, all_allB fun y hy => h y (by simp [hy])]
    congr 1
    have h0 := h x (by simp)
    by_cases hx : x < s
    · rw [decide_eq_true hx, inB_of h0 (by omega)]
    · rw [decide_eq_false hx]
      cases hb : inB x 0 (s - 1)
      · rfl
      · have := inB_t hb; omega
/-- with the last check: what a run answers behind its last word -/
theorem cfgS_shown {α : Type} {s e t : Int} {w : List Int} (bad : α) (f : Int × List Int × List Int → α) (_hs : 1 ≤ s) (he : e = s + t) (hw : ∀ x ∈ w, 0 ≤ x ∧ x ≤ e) :
    (match cfgS s e w with | none => bad | some c => if confB s t c.1 c.2.1 c.2.2 = true then f c else bad) = (match shownW s e w with | none => bad | some c => if roomyB c = true then f c else bad) := by
  rw [cfgS, shownW]
  by_cases hf : frameB e w = true
  · rw [if_pos hf, if_pos hf]
    have hf2 := hf
    simp only [frameB, Bool.and_eq_true, decide_eq_true_eq] at hf2
    obtain ⟨⟨h3, _⟩, _⟩ := hf2
    have hcl : (cellsW w).length = w.length - 2 := by rw [cellsW, List.length_take, List.length_drop]; omega
    have hcm : ∀ x ∈ cellsW w, 0 ≤ x ∧ x ≤ e := fun x hx => hw x (List.mem_of_mem_drop (List.mem_of_mem_take hx))
    rw [scanW_eq]
    rcases firstS_find (p := fun x => decide (s ≤ x)) (cellsW w) 0 with ⟨h0, h1⟩ | ⟨k, x, h0, h1, hx, hp, hk⟩
    · rw [h0, h1, if_pos (by omega), confW, if_pos (by omega)]
      rfl
    · have hkl : k < w.length - 2 := by have := (List.getElem?_eq_some_iff.1 hx).1; omega
      have hsx : s ≤ x := of_decide_eq_true hp
      rw [show 0 + k = k by omega] at h0
      rw [show 0 + 1 + k = k + 1 by omega] at h1
      rw [h0, h1, if_neg (show ¬ (((k + 1 : Nat)) : Int) < 0 by omega), confW, if_neg (show ¬ ((k : Nat) : Int) < 0 by omega), Int.toNat_natCast, Int.toNat_natCast, Nat.add_sub_cancel, hx, Option.getD_some]
      rw [all_allB fun y hy => (hcm y (List.mem_of_mem_drop hy)).1]
      by_cases hc : x < e ∧ allB 0 (s - 1) ((cellsW w).drop (k + 1)) = true
      · rw [if_pos hc, if_pos hc, cfgK, if_neg (show ¬ (((k + 1 : Nat)) : Int) < 0 by omega), Int.toNat_natCast]
        have hwx : w[k + 1]? = some x := by
          have h5 := hx
          rw [cellsW, List.getElem?_take_of_lt hkl, List.getElem?_drop] at h5
          rwa [Nat.add_comm] at h5
        have e1 : (w.drop 1).take (k + 1 - 1) = (cellsW w).take k := by
          rw [cellsW, List.take_take, Nat.add_sub_cancel, show min k (w.length - 2) = k by omega]
        have e2 : (w.drop (k + 1 + 1)).take (w.length - 1 - (k + 1 + 1)) = (cellsW w).drop (k + 1) := by
          rw [cellsW, List.drop_take, List.drop_drop, show 1 + (k + 1) = k + 1 + 1 by omega, show w.length - 2 - (k + 1) = w.length - 1 - (k + 1 + 1) by omega]
        have hcA : cfgA s w (k + 1) = (x - s, trimL ((cellsW w).take k).reverse, trimL ((cellsW w).drop (k + 1))) := by rw [cfgA, hwx, Option.getD_some, e1, e2]
        rw [hcA]
        have hL : ∀ y ∈ ((cellsW w).take k).reverse, 0 ≤ y ∧ y ≤ s - 1 := fun y hy => by
          have hy' := List.mem_reverse.1 hy
          have h6 := hk y hy'
          have h7 := (hcm y (List.mem_of_mem_take hy')).1
          have h8 : ¬ s ≤ y := of_decide_eq_false h6
          omega
        have hM : ∀ y ∈ (cellsW w).drop (k + 1), 0 ≤ y ∧ y ≤ s - 1 := allB_mem hc.2
        have hcf : confB s t (x - s) (trimL ((cellsW w).take k).reverse) (trimL ((cellsW w).drop (k + 1))) = roomyB (x - s, trimL ((cellsW w).take k).reverse, trimL ((cellsW w).drop (k + 1))) := by
          rw [confB, sideW_trim hL, sideW_trim hM, inB_of (by omega) (by omega), Bool.true_and]; rfl
        show (if confB s t (x - s) (trimL ((cellsW w).take k).reverse) (trimL ((cellsW w).drop (k + 1))) = true then _ else _) = _
        rw [hcf]
      · rw [if_neg hc, if_neg hc]; rfl
  · rw [if_neg hf, if_neg hf]
end Go.Proofs.Ytcbcjhfeidkeaaa
