/-
  Parts of the proof, one behind the other: contracts of the functions that the law reaches, and plain laws.
-/
import Derived.Test.YtebjpmmgdkepjaaGreatDoorLot03
import Derived.Test.YtebjpmmgdkepjaaGreatDoorLot04
import Derived.Test.YtebjpmmgdkepjaaGreatDoorLot12
/-
  Recursive functions in prefix notation in plain Lean: trees of nodes, valid trees, what both sides check. Nothing of the program.
-/
namespace Go.Proofs.YtebjpmmgdkepjaaGreatDoor
open Go.RowKit

/-- a node: kind, arity, index -/
abbrev Nd3 := Int × Int × Int
inductive FTr where
  | mk (x : Nd3) (ts : List FTr) : FTr
namespace FTr
def node : FTr → Nd3
  | mk x _ => x
def kids : FTr → List FTr
  | mk _ ts => ts
def ar (t : FTr) : Int := t.node.2.1
mutual
def flat : FTr → List Nd3
  | mk x ts => x :: flats ts
def flats : List FTr → List Nd3
  | [] => []
  | t :: ts => flat t ++ flats ts
end
end FTr
open FTr
def nodeF (x : Nd3) : Bool :=
  if x.1 = 0 then inB x.2.1 0 4 && decide (x.2.2 = 0)
  else if x.1 = 1 then decide (x.2.1 = 1) && decide (x.2.2 = 0)
  else if x.1 = 2 then inB x.2.1 1 4 && inB x.2.2 0 (x.2.1 - 1)
  else if x.1 = 3 then inB x.2.1 0 4 && inB x.2.2 1 4
  else if x.1 = 4 then inB x.2.1 1 3 && decide (x.2.2 = 0)
  else if x.1 = 5 then inB x.2.1 0 3 && decide (x.2.2 = 0)
  else false
/-- the arities of what follows a node -/
def folF (x : Nd3) : List Int := if x.1 = 3 then x.2.2 :: List.replicate x.2.2.toNat x.2.1 else if x.1 = 4 then [x.2.1 - 1, x.2.1 + 1] else if x.1 = 5 then [x.2.1 + 1] else []
def manyF (x : Nd3) : Nat := (folF x).length
mutual
def okT : FTr → Bool
  | mk x ts => nodeF x && decide (ts.map ar = folF x) && okTs ts
def okTs : List FTr → Bool
  | [] => true
  | t :: ts => okT t && okTs ts
end
mutual
/-- the shape alone -/
def okS : FTr → Bool
  | mk x ts => nodeF x && decide (ts.length = manyF x) && okSs ts
def okSs : List FTr → Bool
  | [] => true
  | t :: ts => okS t && okSs ts
end
theorem flat_mk (x : Nd3) (ts : List FTr) : flat (mk x ts) = x :: flats ts := by rw [flat]
theorem flats_nil : flats [] = [] := by rw [flats]
theorem flats_cons (t : FTr) (ts : List FTr) : flats (t :: ts) = flat t ++ flats ts := by rw [flats]
theorem flats_app : ∀ a b : List FTr, flats (a ++ b) = flats a ++ flats b
  | [], b => by rw [flats_nil]; rfl
  | t :: a, b => by rw [List.cons_append, flats_cons, flats_cons, flats_app a b, List.append_assoc]
theorem flat_pos (t : FTr) : 1 ≤ (flat t).length := by cases t; rw [flat_mk]; simp
theorem flats_mem {t : FTr} : ∀ {ts : List FTr}, t ∈ ts → (flat t).length ≤ (flats ts).length
  | u :: ts, h => by
    rw [flats_cons, List.length_append]
    rcases List.mem_cons.1 h with rfl | h
    · omega
    · have := flats_mem h; omega
theorem okT_mk (x : Nd3) (ts : List FTr) : okT (mk x ts) = (nodeF x && decide (ts.map ar = folF x) && okTs ts) := by rw [okT]
theorem okTs_nil : okTs [] = true := by rw [okTs]
theorem okTs_cons (t : FTr) (ts : List FTr) : okTs (t :: ts) = (okT t && okTs ts) := by rw [okTs]
theorem okTs_all : ∀ {ts : List FTr}, okTs ts = true ↔ ∀ t ∈ ts, okT t = true
  | [] => by simp [okTs_nil]
  | t :: ts => by rw [okTs_cons, Bool.and_eq_true, okTs_all]; simp
theorem okS_mk (x : Nd3) (ts : List FTr) : okS (mk x ts) = (nodeF x && decide (ts.length = manyF x) && okSs ts) := by rw [okS]
theorem okSs_nil : okSs [] = true := by rw [okSs]
theorem okSs_cons (t : FTr) (ts : List FTr) : okSs (t :: ts) = (okS t && okSs ts) := by rw [okSs]
theorem okSs_all : ∀ {ts : List FTr}, okSs ts = true ↔ ∀ t ∈ ts, okS t = true
  | [] => by simp [okSs_nil]
  | t :: ts => by rw [okSs_cons, Bool.and_eq_true, okSs_all]; simp
structure OkT (x : Nd3) (ts : List FTr) : Prop where
  node : nodeF x = true
  ars : ts.map ar = folF x
  kids : ∀ t ∈ ts, okT t = true
theorem okT_iff {x : Nd3} {ts : List FTr} : okT (mk x ts) = true ↔ OkT x ts := by
  rw [okT_mk, Bool.and_eq_true, Bool.and_eq_true, decide_eq_true_eq, okTs_all]
  exact ⟨fun h => ⟨h.1.1, h.1.2, h.2⟩, fun h => ⟨⟨h.node, h.ars⟩, h.kids⟩⟩
theorem okS_iff {x : Nd3} {ts : List FTr} : okS (mk x ts) = true ↔ nodeF x = true ∧ ts.length = manyF x ∧ ∀ t ∈ ts, okS t = true := by
  rw [okS_mk, Bool.and_eq_true, Bool.and_eq_true, decide_eq_true_eq, okSs_all, and_assoc]
/-- an induction over trees -/
theorem FTr.ind {P : FTr → Prop} (h : ∀ x ts, (∀ t ∈ ts, P t) → P (mk x ts)) (t : FTr) : P t := by
  have all : ∀ n t, (flat t).length ≤ n → P t := by
    intro n
    induction n with
    | zero => intro t ht; have := flat_pos t; omega
    | succ n ih =>
      intro t ht
      obtain ⟨x, ts⟩ := t
      rw [flat_mk, List.length_cons] at ht
      exact h x ts fun u hu => ih u (by have := flats_mem hu; omega)
  exact all _ t (Nat.le_refl _)
theorem okT_okS (t : FTr) : okT t = true → okS t = true := by
  refine FTr.ind (P := fun t => okT t = true → okS t = true) (fun x ts ih h => ?_) t
  have h := okT_iff.1 h
  refine okS_iff.2 ⟨h.node, ?_, fun u hu => ih u hu (h.kids u hu)⟩
  rw [manyF, ← h.ars, List.length_map]

/-! ### what the program checks: the end of the function that begins at a node -/
def feGo (g : List Nd3 → Int → Option Nat) : List Nd3 → List Int → Option Nat
  | _, [] => some 0
  | l, a :: q => match g l a with
    | none => none
    | some p => (feGo g (l.drop p) q).map (p + ·)
def feE : Nat → List Nd3 → Int → Option Nat
  | 0, _, _ => none
  | _ + 1, [], _ => none
  | N + 1, x :: l, a => if (0 ≤ a ∧ x.2.1 ≠ a) ∨ nodeF x = false then none else (feGo (feE N) l (folF x)).map (· + 1)
theorem folF_nn {x : Nd3} (h : nodeF x = true) : ∀ a ∈ folF x, 0 ≤ a := by
  obtain ⟨k, a, i⟩ := x
  unfold nodeF at h
  unfold folF
  simp only at h ⊢
  intro b hb
  by_cases h3 : k = 3
  · subst h3
    simp at h
    have h1 := inB_t h.1; have h2 := inB_t h.2
    simp at hb
    omega
  rw [if_neg h3] at hb
  by_cases h4 : k = 4
  · subst h4
    simp at h
    have h1 := inB_t h.1
    simp at hb
    omega
  rw [if_neg h4] at hb
  by_cases h5 : k = 5
  · subst h5
    simp at h
    have h1 := inB_t h.1
    simp at hb
    omega
  rw [if_neg h5] at hb
  cases hb
theorem feGo_tree {g : List Nd3 → Int → Option Nat} (hg : ∀ l a p, g l a = some p → ∃ t r, okT t = true ∧ (a < 0 ∨ ar t = a) ∧ (flat t).length = p ∧ l = flat t ++ r) :
    ∀ {q : List Int} {l : List Nd3} {p : Nat}, (∀ a ∈ q, 0 ≤ a) → feGo g l q = some p → ∃ ts r, (∀ t ∈ ts, okT t = true) ∧ ts.map ar = q ∧ (flats ts).length = p ∧ l = flats ts ++ r
  | [], l, p, _, h => by
    rw [feGo] at h
    injection h with h
    exact ⟨[], l, (fun t ht => by cases ht), rfl, by rw [flats_nil]; exact h, by rw [flats_nil]; rfl⟩
  | a :: q, l, p, hq, h => by
    rw [feGo] at h
    cases h1 : g l a with
    | none => rw [h1] at h; cases h
    | some p1 =>
      rw [h1] at h
      obtain ⟨p2, h2, rfl⟩ := Option.map_eq_some_iff.1 h
      obtain ⟨t, r, e1, e2, e3, e4⟩ := hg _ _ _ h1
      rw [e4, List.drop_left' e3] at h2
      obtain ⟨ts, r2, f1, f2, f3, f4⟩ := feGo_tree hg (fun b hb => hq b (List.mem_cons_of_mem _ hb)) h2
      have ha := hq a (by simp)
      refine ⟨t :: ts, r2, fun u hu => ?_, ?_, ?_, ?_⟩
      · rcases List.mem_cons.1 hu with rfl | hu
        · exact e1
        · exact f1 u hu
      · rw [List.map_cons, f2, e2.resolve_left (by omega)]
      · rw [flats_cons, List.length_append]; omega
      · rw [e4, f4, flats_cons, List.append_assoc]
theorem feE_tree : ∀ (N : Nat) (l : List Nd3) (a : Int) (p : Nat), feE N l a = some p → ∃ t r, okT t = true ∧ (a < 0 ∨ ar t = a) ∧ (flat t).length = p ∧ l = flat t ++ r
  | 0, l, a, p, h => by rw [feE] at h; cases h
  | N + 1, [], a, p, h => by rw [feE] at h; cases h
  | N + 1, x :: l, a, p, h => by
    rw [feE] at h
    split at h
    · cases h
    · rename_i hc
      obtain ⟨p1, h1, rfl⟩ := Option.map_eq_some_iff.1 h
      have hn : nodeF x = true := by cases hq : nodeF x; exact absurd (.inr hq) hc; rfl
      obtain ⟨ts, r, f1, f2, f3, f4⟩ := feGo_tree (feE_tree N) (folF_nn hn) h1
      refine ⟨mk x ts, r, okT_iff.2 ⟨hn, f2, f1⟩, ?_, ?_, ?_⟩
      · by_cases h0 : a < 0
        · exact .inl h0
        · exact .inr (Classical.byContradiction fun e => hc (.inl ⟨by omega, e⟩))
      · rw [flat_mk, List.length_cons]; omega
      · rw [f4, flat_mk]; rfl
theorem tree_feGo {g : List Nd3 → Int → Option Nat} : ∀ {ts : List FTr} (r : List Nd3), (∀ t ∈ ts, ∀ r, g (flat t ++ r) (ar t) = some (flat t).length) → feGo g (flats ts ++ r) (ts.map ar) = some (flats ts).length
  | [], r, _ => by rw [flats_nil]; rfl
  | t :: ts, r, h => by
    rw [flats_cons, List.append_assoc, List.map_cons, feGo, h t (by simp)]
    simp only
    rw [List.drop_left, tree_feGo r fun u hu => h u (List.mem_cons_of_mem _ hu), List.length_append]; rfl
theorem tree_feE (t : FTr) : ∀ (N : Nat) (a : Int) (r : List Nd3), okT t = true → (a < 0 ∨ ar t = a) → (flat t).length ≤ N → feE N (flat t ++ r) a = some (flat t).length := by
  refine FTr.ind (P := fun t => ∀ (N : Nat) (a : Int) (r : List Nd3), okT t = true → (a < 0 ∨ ar t = a) → (flat t).length ≤ N → feE N (flat t ++ r) a = some (flat t).length) (fun x ts ih N a r h ha hN => ?_) t
  have h := okT_iff.1 h
  rw [flat_mk, List.length_cons] at hN
  obtain ⟨N, rfl⟩ : ∃ M, N = M + 1 := ⟨N - 1, by omega⟩
  have ha : a < 0 ∨ x.2.1 = a := ha
  rw [flat_mk, List.cons_append, feE, if_neg (by rintro (⟨h0, h1⟩ | h1); · exact h1 (ha.resolve_left (by omega))
                                                 · rw [h.node] at h1; cases h1), ← h.ars, tree_feGo r fun u hu r => ih u hu N (ar u) r (h.kids u hu) (.inr rfl) (by have := flats_mem hu; omega), List.length_cons]
  rfl
/-- a list that is one valid function -/
def IsF (f : List Nd3) : Prop := ∃ t, okT t = true ∧ f = flat t
def validF (f : List Nd3) : Bool := inB f.length 1 60 && decide (feE f.length f (-1) = some f.length)
theorem validF_iff {f : List Nd3} : validF f = true ↔ f.length ≤ 60 ∧ IsF f := by
  rw [validF, Bool.and_eq_true, decide_eq_true_eq]
  constructor
  · rintro ⟨h1, h2⟩
    have h1 := inB_t h1
    obtain ⟨t, r, e1, _, e3, e4⟩ := feE_tree _ _ _ _ h2
    have hr : r = [] := by
      have h5 := congrArg List.length e4
      rw [List.length_append] at h5
      exact List.length_eq_zero_iff.1 (by omega)
    subst hr
    exact ⟨by omega, t, e1, by rw [e4, List.append_nil]⟩
  · rintro ⟨h1, t, h2, rfl⟩
    have := flat_pos t
    have h3 := tree_feE t (flat t).length (-1) [] h2 (.inl (by omega)) (Nat.le_refl _)
    rw [List.append_nil] at h3
    exact ⟨inB_of (by omega) (by omega), h3⟩

/-! ### what the reference checks: nodes and shape, then the arities at each node -/
def nsE : List Nd3 → Nat → Option Nat
  | _, 0 => some 0
  | [], _ + 1 => none
  | x :: l, n + 1 => if nodeF x = true then (nsE l (n + manyF x)).map (· + 1) else none
theorem nsE_zero (l : List Nd3) : nsE l 0 = some 0 := by cases l <;> rfl
theorem nsE_tree : ∀ {l : List Nd3} {n p : Nat}, nsE l n = some p → ∃ ts r, ts.length = n ∧ (∀ t ∈ ts, okS t = true) ∧ (flats ts).length = p ∧ l = flats ts ++ r
  | l, 0, p, h => by
    rw [nsE_zero] at h; injection h with h
    exact ⟨[], l, rfl, (fun t ht => by cases ht), by rw [flats_nil]; exact h, by rw [flats_nil]; rfl⟩
  | [], n + 1, p, h => by cases h
  | x :: l, n + 1, p, h => by
    rw [nsE] at h
    split at h
    · rename_i hn
      obtain ⟨q, hq, rfl⟩ := Option.map_eq_some_iff.1 h
      obtain ⟨ts, r, h1, h2, h3, h4⟩ := nsE_tree hq
      have e : ts = ts.take (manyF x) ++ ts.drop (manyF x) := (List.take_append_drop _ _).symm
      refine ⟨mk x (ts.take (manyF x)) :: ts.drop (manyF x), r, ?_, fun u hu => ?_, ?_, ?_⟩
      · rw [List.length_cons, List.length_drop]; omega
      · rcases List.mem_cons.1 hu with rfl | hu
        · exact okS_iff.2 ⟨hn, by rw [List.length_take]; omega, fun v hv => h2 v (List.mem_of_mem_take hv)⟩
        · exact h2 u (List.mem_of_mem_drop hu)
      · rw [flats_cons, flat_mk, List.cons_append, ← flats_app, ← e, List.length_cons, h3]
      · rw [flats_cons, flat_mk, List.cons_append, ← flats_app, ← e, h4]; rfl
    · cases h
theorem tree_nsE : ∀ (n : Nat) (ts : List FTr) (r : List Nd3), (flats ts).length ≤ n → (∀ t ∈ ts, okS t = true) → nsE (flats ts ++ r) ts.length = some (flats ts).length
  | n, [], r, _, _ => by rw [flats_nil]; exact nsE_zero _
  | 0, t :: ts, r, h, _ => by rw [flats_cons, List.length_append] at h; have := flat_pos t; omega
  | n + 1, mk x ks :: ts, r, h, ho => by
    obtain ⟨h1, h2, h3⟩ := okS_iff.1 (ho (mk x ks) (by simp))
    have e : flats (mk x ks :: ts) = x :: flats (ks ++ ts) := by rw [flats_cons, flat_mk, flats_app]; rfl
    rw [e, List.length_cons] at h
    have ih := tree_nsE n (ks ++ ts) r (by omega) (fun u hu => by
      rcases List.mem_append.1 hu with hu | hu
      · exact h3 u hu
      · exact ho u (List.mem_cons_of_mem _ hu))
    rw [List.length_append, h2, Nat.add_comm] at ih
    rw [e, List.cons_append, List.length_cons, nsE, if_pos h1, ih, List.length_cons]; rfl
mutual
/-- all functions within a function, in the order of their nodes -/
def subsT : FTr → List FTr
  | mk x ts => mk x ts :: subsTs ts
def subsTs : List FTr → List FTr
  | [] => []
  | t :: ts => subsT t ++ subsTs ts
end
theorem subsT_mk (x : Nd3) (ts : List FTr) : subsT (mk x ts) = mk x ts :: subsTs ts := by rw [subsT]
theorem subsTs_nil : subsTs [] = [] := by rw [subsTs]
theorem subsTs_cons (t : FTr) (ts : List FTr) : subsTs (t :: ts) = subsT t ++ subsTs ts := by rw [subsTs]
theorem subsTs_mem {s : FTr} : ∀ {ts : List FTr}, s ∈ subsTs ts ↔ ∃ t ∈ ts, s ∈ subsT t
  | [] => by simp [subsTs_nil]
  | t :: ts => by rw [subsTs_cons, List.mem_append, subsTs_mem]; simp
theorem subsT_len (t : FTr) : (subsT t).length = (flat t).length := by
  refine FTr.ind (P := fun t => (subsT t).length = (flat t).length) (fun x ts ih => ?_) t
  have hl : ∀ q : List FTr, (∀ t ∈ q, t ∈ ts) → (subsTs q).length = (flats q).length := by
    intro q
    induction q with
    | nil => intro _; rw [subsTs_nil, flats_nil]; rfl
    | cons t q ihq => intro h; rw [subsTs_cons, flats_cons, List.length_append, List.length_append, ih t (h t (by simp)), ihq fun u hu => h u (List.mem_cons_of_mem _ hu)]
  rw [subsT_mk, flat_mk, List.length_cons, List.length_cons, hl ts fun _ h => h]
theorem subsT_at (t : FTr) : ∀ (k : Nat) (s : FTr), (subsT t)[k]? = some s → ∃ r, (flat t).drop k = flat s ++ r := by
  refine FTr.ind (P := fun t => ∀ (k : Nat) (s : FTr), (subsT t)[k]? = some s → ∃ r, (flat t).drop k = flat s ++ r) (fun x ts ih k s h => ?_) t
  have hl : ∀ q : List FTr, (∀ t ∈ q, t ∈ ts) → ∀ k s, (subsTs q)[k]? = some s → ∃ r, (flats q).drop k = flat s ++ r := by
    intro q
    induction q with
    | nil => intro _ k s h; rw [subsTs_nil] at h; simp at h
    | cons t q ihq =>
      intro hq k s h
      rw [subsTs_cons] at h
      rw [flats_cons]
      rcases Nat.lt_or_ge k (flat t).length with hk | hk
      · rw [List.getElem?_append_left (by rw [subsT_len]; exact hk)] at h
        obtain ⟨r, hr⟩ := ih t (hq t (by simp)) k s h
        exact ⟨r ++ flats q, by rw [List.drop_append_of_le_length (by omega), hr, List.append_assoc]⟩
      · rw [List.getElem?_append_right (by rw [subsT_len]; exact hk), subsT_len] at h
        obtain ⟨r, hr⟩ := ihq (fun u hu => hq u (List.mem_cons_of_mem _ hu)) _ s h
        refine ⟨r, ?_⟩
        rw [List.drop_append, List.drop_eq_nil_of_le hk, List.nil_append, hr]
  cases k with
  | zero =>
    rw [subsT_mk] at h
    simp only [List.getElem?_cons_zero, Option.some.injEq] at h
    subst h
    exact ⟨[], by simp⟩
  | succ k =>
    rw [subsT_mk, List.getElem?_cons_succ] at h
    rw [flat_mk, List.drop_succ_cons]
    exact hl ts (fun _ h => h) k s h
def fitT (t : FTr) : Bool := decide (t.kids.map ar = folF t.node)
theorem okT_subs (t : FTr) : okT t = true ↔ okS t = true ∧ ∀ s ∈ subsT t, fitT s = true := by
  refine FTr.ind (P := fun t => okT t = true ↔ okS t = true ∧ ∀ s ∈ subsT t, fitT s = true) (fun x ts ih => ?_) t
  constructor
  · intro h
    refine ⟨okT_okS _ h, fun s hs => ?_⟩
    have h := okT_iff.1 h
    rw [subsT_mk] at hs
    rcases List.mem_cons.1 hs with rfl | hs
    · exact decide_eq_true h.ars
    · obtain ⟨u, hu, hs⟩ := subsTs_mem.1 hs
      exact ((ih u hu).1 (h.kids u hu)).2 s hs
  · rintro ⟨h1, h2⟩
    obtain ⟨n1, n2, n3⟩ := okS_iff.1 h1
    rw [subsT_mk] at h2
    refine okT_iff.2 ⟨n1, of_decide_eq_true (show decide (ts.map ar = folF x) = true from h2 (mk x ts) (by simp)), fun u hu => (ih u hu).2 ⟨n3 u hu, fun s hs => h2 s (List.mem_cons_of_mem _ (subsTs_mem.2 ⟨u, hu, hs⟩))⟩⟩
theorem okS_subs (t : FTr) : okS t = true → ∀ s ∈ subsT t, okS s = true := by
  refine FTr.ind (P := fun t => okS t = true → ∀ s ∈ subsT t, okS s = true) (fun x ts ih h s hs => ?_) t
  rw [subsT_mk] at hs
  rcases List.mem_cons.1 hs with rfl | hs
  · exact h
  · obtain ⟨u, hu, hs⟩ := subsTs_mem.1 hs
    exact ih u hu ((okS_iff.1 h).2.2 u hu) s hs
end Go.Proofs.YtebjpmmgdkepjaaGreatDoor
/-
  Functions as lambda terms in plain Lean: applications, abstractions, numerals, the term of a function. Nothing of the program.
-/
namespace Go.Proofs.YtebjpmmgdkepjaaGreatDoor
open Go.RowKit
open FTr

abbrev LT := List (Int × Int)
def appLm (t : LT) (args : List LT) : LT := List.replicate args.length ((2 : Int), (0 : Int)) ++ (t ++ args.flatten)
def absLm (n : Nat) (t : LT) : LT := List.replicate n ((1 : Int), (0 : Int)) ++ t
def varLm (i : Int) : LT := [(0, i)]
def numB : Nat → LT
  | 0 => [(0, 0)]
  | n + 1 => (2, 0) :: (0, 1) :: numB n
def numLm (n : Nat) : LT := absLm 2 (numB n)
/-- the successor -/
def sucLm : LT := [(1, 0), (1, 0), (1, 0), (2, 0), (0, 1), (2, 0), (2, 0), (0, 2), (0, 1), (0, 0)]
def falLm : LT := [(1, 0), (1, 0), (0, 0)]
/-- the variables of the arguments from one on, within so many abstractions -/
def vsLm (n frm within : Nat) : List LT := (List.range (n - frm)).map fun j => varLm ((n : Int) - 1 - ((frm + j : Nat) : Int) + (within : Int))
def stepLm (n : Nat) (p : LT) : LT := absLm 3 (appLm (varLm 2) [appLm sucLm [varLm 1], appLm p ([varLm 1, varLm 0] ++ vsLm n 1 3)])
def loopLm (n : Nat) (p : LT) : LT := absLm 2 (appLm (appLm p (varLm 0 :: vsLm n 0 2)) [absLm 1 (appLm (varLm 2) [varLm 2, appLm sucLm [varLm 1]]), varLm 0])
def bodLm (x : Nd3) (ps : List LT) : LT :=
  if x.1 = 0 then numLm 0
  else if x.1 = 1 then appLm sucLm [varLm 0]
  else if x.1 = 2 then varLm (x.2.1 - 1 - x.2.2)
  else if x.1 = 3 then appLm (ps.getD 0 []) (ps.tail.map fun p => appLm p (vsLm x.2.1.toNat 0 0))
  else if x.1 = 4 then appLm (varLm (x.2.1 - 1)) [stepLm x.2.1.toNat (ps.getD 1 []), falLm, numLm 0, appLm (ps.getD 0 []) (vsLm x.2.1.toNat 1 0)]
  else appLm (loopLm x.2.1.toNat (ps.getD 0 [])) [loopLm x.2.1.toNat (ps.getD 0 []), numLm 0]
def outLm (x : Nd3) (ps : List LT) : LT := absLm x.2.1.toNat (bodLm x ps)
mutual
/-- the term of a function, or none if a part is too long -/
def trmO : FTr → Option LT
  | mk x ts => match trmsO ts with
    | none => none
    | some ps => if validL (outLm x ps) = true then some (outLm x ps) else none
def trmsO : List FTr → Option (List LT)
  | [] => some []
  | t :: ts => match trmO t with
    | none => none
    | some u => (trmsO ts).map (u :: ·)
end
theorem trmO_mk (x : Nd3) (ts : List FTr) : trmO (mk x ts) = match trmsO ts with
    | none => none
    | some ps => if validL (outLm x ps) = true then some (outLm x ps) else none := by rw [trmO]
theorem trmO_no {x : Nd3} {ts : List FTr} (h : trmsO ts = none) : trmO (mk x ts) = none := by rw [trmO_mk, h]
theorem trmO_yes {x : Nd3} {ts : List FTr} {ps : List LT} (h : trmsO ts = some ps) : trmO (mk x ts) = if validL (outLm x ps) = true then some (outLm x ps) else none := by rw [trmO_mk, h]
theorem trmsO_nil : trmsO [] = some [] := by rw [trmsO]
theorem trmsO_no {t : FTr} {ts : List FTr} (h : trmO t = none) : trmsO (t :: ts) = none := by rw [trmsO, h]
theorem trmsO_yes {t : FTr} {ts : List FTr} {u : LT} (h : trmO t = some u) : trmsO (t :: ts) = (trmsO ts).map (u :: ·) := by rw [trmsO, h]
theorem trmO_valid {t : FTr} {u : LT} (h : trmO t = some u) : validL u = true := by
  cases t with
  | mk x ts =>
    rw [trmO_mk] at h
    split at h
    · cases h
    · split at h
      · rename_i hv; injection h with h; subst h; exact hv
      · cases h
theorem trmsO_all : ∀ {ts : List FTr} {ps : List LT}, trmsO ts = some ps → ps.length = ts.length ∧ ∀ p ∈ ps, validL p = true
  | [], ps, h => by rw [trmsO_nil] at h; injection h with h; subst h; exact ⟨rfl, fun p hp => by cases hp⟩
  | t :: ts, ps, h => by
    cases ht : trmO t with
    | none => rw [trmsO_no ht] at h; cases h
    | some u =>
      rw [trmsO_yes ht] at h
      cases hs : trmsO ts with
      | none => rw [hs] at h; cases h
      | some qs =>
        rw [hs] at h; injection h with h; subst h
        obtain ⟨h1, h2⟩ := trmsO_all hs
        refine ⟨by simp [h1], fun p hp => ?_⟩
        rcases List.mem_cons.1 hp with rfl | hp
        · exact trmO_valid ht
        · exact h2 p hp
/-- one term in prefix notation, of whatever length -/
structure WfL (t : LT) : Prop where
  ok : ∀ x ∈ t, okL x = true
  one : endP manyL t 1 = some t.length
theorem WfL.of_valid {t : LT} (h : validL t = true) : WfL t := ⟨validL_ok h, (validL_end h).1⟩
theorem endP_moreL {f : Int → Nat} : ∀ {l r : List (Int × Int)} {n p : Nat}, endP f l n = some p → endP f (l ++ r) n = some p
  | l, r, 0, p, h => by rw [endP_zero] at h ⊢; exact h
  | [], r, n + 1, p, h => by rw [endP_nil] at h; cases h
  | x :: l, r, n + 1, p, h => by
    rw [endP_cons] at h
    obtain ⟨q, hq, rfl⟩ := Option.map_eq_some_iff.1 h
    rw [List.cons_append, endP_cons, endP_moreL hq]; rfl
theorem WfL.valid {t : LT} (h : WfL t) : validL t = decide (t.length ≤ 400) := by
  have h1 : 1 ≤ t.length := by
    have := h.one
    cases t with
    | nil => rw [endP_nil] at this; cases this
    | cons x l => simp
  rw [validL, h.one]
  have h2 : t.all okL = true := List.all_eq_true.2 h.ok
  rw [h2, Bool.and_true, decide_eq_true rfl, Bool.and_true]
  by_cases h4 : t.length ≤ 400
  · rw [decide_eq_true h4]; exact inB_of (by omega) (by omega)
  · rw [decide_eq_false h4]
    cases hb : inB t.length 1 400 with
    | false => rfl
    | true => have := inB_t hb; omega
theorem WfL.list : ∀ {args : List LT}, (∀ t ∈ args, WfL t) → (∀ x ∈ args.flatten, okL x = true) ∧ endP manyL args.flatten args.length = some args.flatten.length
  | [], _ => ⟨(fun x hx => by cases hx), endP_zero _ _⟩
  | t :: l, h => by
    obtain ⟨h1, h2⟩ := WfL.list fun u hu => h u (List.mem_cons_of_mem _ hu)
    have ht := h t (by simp)
    refine ⟨fun x hx => ?_, ?_⟩
    · rw [List.flatten_cons, List.mem_append] at hx
      rcases hx with hx | hx
      · exact ht.ok x hx
      · exact h1 x hx
    · rw [List.flatten_cons, List.length_cons, Nat.add_comm, List.length_append]
      exact endP_app (endP_moreL ht.one) (by rw [List.drop_left]; exact h2)
theorem endP_appsL {l : List (Int × Int)} {p : Nat} : ∀ {m n : Nat}, endP manyL l (n + 1 + m) = some p → endP manyL (List.replicate m (2, 0) ++ l) (n + 1) = some (m + p)
  | 0, n, h => by simpa using h
  | m + 1, n, h => by
    rw [List.replicate_succ, List.cons_append, endP_cons]
    show (endP manyL (List.replicate m (2, 0) ++ l) (n + 1 + 1)).map _ = _
    rw [endP_appsL (m := m) (n := n + 1) (by rw [show n + 1 + 1 + m = n + 1 + (m + 1) by omega]; exact h)]
    simp; omega
theorem endP_abssL {l : List (Int × Int)} {p n : Nat} : ∀ {m : Nat}, endP manyL l (n + 1) = some p → endP manyL (List.replicate m (1, 0) ++ l) (n + 1) = some (m + p)
  | 0, h => by simpa using h
  | m + 1, h => by
    rw [List.replicate_succ, List.cons_append, endP_cons]
    show (endP manyL (List.replicate m (1, 0) ++ l) (n + 1)).map _ = _
    rw [endP_abssL h]
    simp; omega
theorem WfL.app {t : LT} {args : List LT} (h : WfL t) (ha : ∀ u ∈ args, WfL u) : WfL (appLm t args) := by
  obtain ⟨h1, h2⟩ := WfL.list ha
  refine ⟨fun x hx => ?_, ?_⟩
  · rw [appLm, List.mem_append, List.mem_append] at hx
    rcases hx with hx | hx | hx
    · rw [(List.mem_replicate.1 hx).2]; decide
    · exact h.ok x hx
    · exact h1 x hx
  · have h3 : endP manyL (t ++ args.flatten) (1 + args.length) = some (t.length + args.flatten.length) := endP_app (endP_moreL h.one) (by rw [List.drop_left]; exact h2)
    have h4 := endP_appsL (m := args.length) (n := 0) (l := t ++ args.flatten) (by rw [Nat.zero_add]; exact h3)
    rw [Nat.zero_add] at h4
    rw [appLm, h4, List.length_append, List.length_replicate, List.length_append]
theorem WfL.abs {t : LT} (h : WfL t) (n : Nat) : WfL (absLm n t) := by
  refine ⟨fun x hx => ?_, ?_⟩
  · rw [absLm, List.mem_append] at hx
    rcases hx with hx | hx
    · rw [(List.mem_replicate.1 hx).2]; decide
    · exact h.ok x hx
  · have h4 := endP_abssL (m := n) (n := 0) h.one
    rw [Nat.zero_add] at h4
    rw [absLm, h4, List.length_append, List.length_replicate]
theorem WfL.var {i : Int} (h0 : 0 ≤ i) (h1 : i ≤ 399) : WfL (varLm i) := by
  refine ⟨fun x hx => ?_, rfl⟩
  rw [varLm, List.mem_singleton] at hx
  subst hx
  simp [okL, inB]; omega
theorem WfL.numB : ∀ n, WfL (numB n)
  | 0 => ⟨by decide, rfl⟩
  | n + 1 => by
    have h := WfL.numB n
    refine ⟨fun x hx => ?_, ?_⟩
    · rcases List.mem_cons.1 hx with rfl | hx
      · decide
      · rcases List.mem_cons.1 hx with rfl | hx
        · decide
        · exact h.ok x hx
    · show endP manyL ((2, 0) :: (0, 1) :: Go.Proofs.YtebjpmmgdkepjaaGreatDoor.numB n) (0 + 1) = _
      rw [endP_cons]
      show (endP manyL ((0, 1) :: Go.Proofs.YtebjpmmgdkepjaaGreatDoor.numB n) (1 + 1)).map _ = _
      rw [endP_cons]
      show ((endP manyL (Go.Proofs.YtebjpmmgdkepjaaGreatDoor.numB n) 1).map _).map _ = _
      rw [h.one]; simp [Go.Proofs.YtebjpmmgdkepjaaGreatDoor.numB]
theorem WfL.num (n : Nat) : WfL (numLm n) := (WfL.numB n).abs 2
theorem WfL.suc : WfL sucLm := ⟨by decide, by decide⟩
theorem WfL.fal : WfL falLm := ⟨by decide, by decide⟩
theorem WfL.vs {n frm within : Nat} (h : n + within ≤ 400) : ∀ t ∈ vsLm n frm within, WfL t := by
  intro t ht
  obtain ⟨j, hj, rfl⟩ := List.mem_map.1 ht
  have := List.mem_range.1 hj
  exact WfL.var (by omega) (by omega)
theorem nodeF_ar {x : Nd3} (h : nodeF x = true) : 0 ≤ x.2.1 ∧ x.2.1 ≤ 4 ∧ (x.1 = 2 → 0 ≤ x.2.2 ∧ x.2.2 ≤ x.2.1 - 1) ∧ (x.1 = 4 → 1 ≤ x.2.1) := by
  unfold nodeF at h
  split at h
  · rw [Bool.and_eq_true] at h; have := inB_t h.1; omega
  · split at h
    · rw [Bool.and_eq_true, decide_eq_true_eq] at h; omega
    · split at h
      · rw [Bool.and_eq_true] at h; have h1 := inB_t h.1; have h2 := inB_t h.2; omega
      · split at h
        · rw [Bool.and_eq_true] at h; have h1 := inB_t h.1; omega
        · split at h
          · rw [Bool.and_eq_true] at h; have h1 := inB_t h.1; omega
          · split at h
            · rw [Bool.and_eq_true] at h; have h1 := inB_t h.1; omega
            · cases h
theorem getD_wf {ps : List LT} (hp : ∀ p ∈ ps, WfL p) {k : Nat} (hk : k < ps.length) : WfL (ps.getD k []) := by
  rw [List.getD_eq_getElem?_getD, List.getElem?_eq_getElem hk]
  exact hp _ (List.getElem_mem hk)
theorem WfL.step {n : Nat} {p : LT} (h : WfL p) (hn : n ≤ 4) : WfL (stepLm n p) := by
  refine WfL.abs (WfL.app (WfL.var (by omega) (by omega)) fun u hu => ?_) 3
  rcases List.mem_cons.1 hu with rfl | hu
  · exact WfL.suc.app fun v hv => by rw [List.mem_singleton] at hv; subst hv; exact WfL.var (by omega) (by omega)
  · rw [List.mem_singleton] at hu
    subst hu
    refine h.app fun v hv => ?_
    rcases List.mem_append.1 hv with hv | hv
    · rcases List.mem_cons.1 hv with rfl | hv
      · exact WfL.var (by omega) (by omega)
      · rw [List.mem_singleton] at hv; subst hv; exact WfL.var (by omega) (by omega)
    · exact WfL.vs (by omega) v hv
theorem WfL.loop {n : Nat} {p : LT} (h : WfL p) (hn : n ≤ 4) : WfL (loopLm n p) := by
  refine WfL.abs (WfL.app (WfL.app h fun v hv => ?_) fun u hu => ?_) 2
  · rcases List.mem_cons.1 hv with rfl | hv
    · exact WfL.var (by omega) (by omega)
    · exact WfL.vs (by omega) v hv
  · rcases List.mem_cons.1 hu with rfl | hu
    · refine WfL.abs (WfL.app (WfL.var (by omega) (by omega)) fun v hv => ?_) 1
      rcases List.mem_cons.1 hv with rfl | hv
      · exact WfL.var (by omega) (by omega)
      · rw [List.mem_singleton] at hv
        subst hv
        exact WfL.suc.app fun v hv => by rw [List.mem_singleton] at hv; subst hv; exact WfL.var (by omega) (by omega)
    · rw [List.mem_singleton] at hu; subst hu; exact WfL.var (by omega) (by omega)
theorem WfL.bod {x : Nd3} {ps : List LT} (hx : nodeF x = true) (hl : ps.length = manyF x) (hp : ∀ p ∈ ps, WfL p) : WfL (bodLm x ps) := by
  obtain ⟨a0, a4, a2, a5⟩ := nodeF_ar hx
  have hm : (x.1 = 3 → 1 ≤ ps.length) ∧ (x.1 = 4 → 2 ≤ ps.length) ∧ (x.1 = 5 → 1 ≤ ps.length) := by
    rw [hl, manyF, folF]
    refine ⟨fun h => by rw [if_pos h]; simp, fun h => by rw [if_neg (by omega), if_pos h]; simp, fun h => by rw [if_neg (by omega), if_neg (by omega), if_pos h]; simp⟩
  unfold bodLm
  split
  · exact WfL.num 0
  · split
    · exact WfL.suc.app fun v hv => by rw [List.mem_singleton] at hv; subst hv; exact WfL.var (by omega) (by omega)
    · split
      · rename_i h2; have := a2 h2; exact WfL.var (by omega) (by omega)
      · split
        · rename_i h3
          refine (getD_wf hp (by have := hm.1 h3; omega)).app fun v hv => ?_
          obtain ⟨p, hpm, rfl⟩ := List.mem_map.1 hv
          exact (hp p (List.mem_of_mem_tail hpm)).app (WfL.vs (by omega))
        · split
          · rename_i h4
            have h1 := a5 h4
            have h2 := hm.2.1 h4
            refine WfL.app (WfL.var (by omega) (by omega)) fun v hv => ?_
            simp only [List.mem_cons, List.not_mem_nil, or_false] at hv
            rcases hv with rfl | rfl | rfl | rfl
            · exact (getD_wf hp (by omega)).step (by omega)
            · exact WfL.fal
            · exact WfL.num 0
            · exact (getD_wf hp (by omega)).app (WfL.vs (by omega))
          · have h5 : x.1 = 5 := by
              rename_i g0 g1 g2 g3 g4
              unfold nodeF at hx
              rw [if_neg g0, if_neg g1, if_neg g2, if_neg g3, if_neg g4] at hx
              split at hx
              · assumption
              · cases hx
            have h1 := hm.2.2 h5
            have hw := (getD_wf hp (k := 0) (by omega)).loop (n := x.2.1.toNat) (by omega)
            refine hw.app fun v hv => ?_
            simp only [List.mem_cons, List.not_mem_nil, or_false] at hv
            rcases hv with rfl | rfl
            · exact hw
            · exact WfL.num 0
theorem outLm_valid {x : Nd3} {ps : List LT} (hx : nodeF x = true) (hl : ps.length = manyF x) (hp : ∀ p ∈ ps, validL p = true) : validL (outLm x ps) = decide ((outLm x ps).length ≤ 400) :=
  ((WfL.bod hx hl fun p h => WfL.of_valid (hp p h)).abs _).valid
end Go.Proofs.YtebjpmmgdkepjaaGreatDoor
/-
  Lambda terms as combinator terms in plain Lean. Nothing of the program.
-/
namespace Go.Proofs.YtebjpmmgdkepjaaGreatDoor
open Go.RowKit

/-- where the second part of an application begins -/
def midC (c : LT) : Nat := 1 + (endP manyC (c.drop 1) 1).getD 0
/-- the abstraction of a variable (in short) -/
def absC : Nat → Int → LT → LT
  | 0, _, c => c
  | f + 1, k, c => if c = [(4, k)] then [(3, 0)] else if ¬ (4, k) ∈ c then (0, 0) :: (2, 0) :: c else
      if c.drop (midC c) = [(4, k)] ∧ ¬ (4, k) ∈ (c.take (midC c)).drop 1 then (c.take (midC c)).drop 1
      else (0, 0) :: (0, 0) :: (1, 0) :: (absC f k ((c.take (midC c)).drop 1) ++ absC f k (c.drop (midC c)))
/-- the program's combinator term of the first term, and what is behind it; none: too long -/
def lcP : Nat → Nat → LT → Option (LT × LT)
  | 0, _, _ => none
  | _ + 1, _, [] => none
  | f + 1, d, x :: r => if x.1 = 0 then some ([(4, x.2 - (d : Int))], r) else if x.1 = 1 then
      (match lcP f (d + 1) r with
      | none => none
      | some (c, r') => if (absC c.length (-1 - (d : Int)) c).length ≤ 400 then some (absC c.length (-1 - (d : Int)) c, r') else none)
    else match lcP f d r with
      | none => none
      | some (a, r1) => match lcP f d r1 with
        | none => none
        | some (b, r2) => if ((0, 0) :: (a ++ b)).length ≤ 400 then some ((0, 0) :: (a ++ b), r2) else none
end Go.Proofs.YtebjpmmgdkepjaaGreatDoor
/-
  Closed lambda terms as combinator terms in plain Lean: both ways to name the variables give the same term. Nothing of the program.
-/
namespace Go.Proofs.YtebjpmmgdkepjaaGreatDoor
open Go.RowKit

/-- a term whose variables are all bound, within so many abstractions -/
inductive Clo : Nat → LT → Prop
  | var {d : Nat} {i : Int} : 0 ≤ i → i < d → Clo d [(0, i)]
  | abs {d : Nat} {t : LT} : Clo (d + 1) t → Clo d ((1, 0) :: t)
  | app {d : Nat} {a b : LT} : Clo d a → Clo d b → Clo d ((2, 0) :: (a ++ b))
theorem Clo.pos {d : Nat} {t : LT} (h : Clo d t) : 1 ≤ t.length := by cases h <;> simp
theorem Clo.more {d : Nat} {t : LT} (h : Clo d t) : ∀ {d' : Nat}, d ≤ d' → Clo d' t := by
  induction h with
  | var h1 h2 => intro d' hd; exact .var h1 (by omega)
  | abs _ ih => intro d' hd; exact .abs (ih (by omega))
  | app _ _ ih1 ih2 => intro d' hd; exact .app (ih1 hd) (ih2 hd)
theorem Clo.abss {t : LT} {d : Nat} : ∀ {n : Nat}, Clo (d + n) t → Clo d (absLm n t)
  | 0, h => h
  | n + 1, h => by
    have h1 : Clo (d + 1) (absLm n t) := Clo.abss (n := n) (by rw [show d + 1 + n = d + (n + 1) by omega]; exact h)
    have e : absLm (n + 1) t = (1, 0) :: absLm n t := by rw [absLm, absLm, List.replicate_succ]; rfl
    rw [e]; exact .abs h1
theorem Clo.apps {d : Nat} : ∀ {args : List LT} {t : LT}, Clo d t → (∀ u ∈ args, Clo d u) → Clo d (appLm t args)
  | [], t, h, _ => by simpa [appLm] using h
  | u :: l, t, h, ha => by
    have h1 : Clo d ((2, 0) :: (t ++ u)) := .app h (ha u (by simp))
    have h2 := Clo.apps (args := l) h1 fun v hv => ha v (List.mem_cons_of_mem _ hv)
    have e : appLm t (u :: l) = appLm ((2, 0) :: (t ++ u)) l := by
      simp only [appLm, List.length_cons, List.replicate_succ', List.flatten_cons]
      simp
    rw [e]; exact h2
theorem Clo.numB {d : Nat} (hd : 2 ≤ d) : ∀ n, Clo d (numB n)
  | 0 => .var (by omega) (by omega)
  | n + 1 => .app (a := [(0, 1)]) (.var (by omega) (by omega)) (Clo.numB hd n)
theorem Clo.num (n : Nat) {d : Nat} : Clo d (numLm n) := Clo.abss (n := 2) (Clo.numB (by omega) n)
theorem Clo.suc {d : Nat} : Clo d sucLm :=
  .abs (.abs (.abs (.app (a := [(0, 1)]) (.var (by omega) (by omega)) (.app (a := [(2, 0), (0, 2), (0, 1)]) (.app (a := [(0, 2)]) (.var (by omega) (by omega)) (.var (by omega) (by omega))) (.var (by omega) (by omega))))))
theorem Clo.fal {d : Nat} : Clo d falLm := .abs (.abs (.var (by omega) (by omega)))
theorem Clo.vs {n frm within d : Nat} (h : n + within ≤ d) : ∀ t ∈ vsLm n frm within, Clo d t := by
  intro t ht
  obtain ⟨j, hj, rfl⟩ := List.mem_map.1 ht
  have := List.mem_range.1 hj
  exact .var (by omega) (by omega)
theorem Clo.step {n : Nat} {p : LT} (h : Clo 0 p) : Clo n (stepLm n p) := by
  refine Clo.abss (n := 3) (Clo.apps (.var (by omega) (by omega)) fun u hu => ?_)
  rcases List.mem_cons.1 hu with rfl | hu
  · exact Clo.suc.apps fun v hv => by rw [List.mem_singleton] at hv; subst hv; exact .var (by omega) (by omega)
  · rw [List.mem_singleton] at hu
    subst hu
    refine (h.more (by omega)).apps fun v hv => ?_
    rcases List.mem_append.1 hv with hv | hv
    · rcases List.mem_cons.1 hv with rfl | hv
      · exact .var (by omega) (by omega)
      · rw [List.mem_singleton] at hv; subst hv; exact .var (by omega) (by omega)
    · exact Clo.vs (by omega) v hv
theorem Clo.loop {n : Nat} {p : LT} (h : Clo 0 p) : Clo n (loopLm n p) := by
  refine Clo.abss (n := 2) (Clo.apps (Clo.apps (h.more (by omega)) fun v hv => ?_) fun u hu => ?_)
  · rcases List.mem_cons.1 hv with rfl | hv
    · exact .var (by omega) (by omega)
    · exact Clo.vs (by omega) v hv
  · rcases List.mem_cons.1 hu with rfl | hu
    · refine Clo.abss (n := 1) (Clo.apps (.var (by omega) (by omega)) fun v hv => ?_)
      rcases List.mem_cons.1 hv with rfl | hv
      · exact .var (by omega) (by omega)
      · rw [List.mem_singleton] at hv
        subst hv
        exact Clo.suc.apps fun v hv => by rw [List.mem_singleton] at hv; subst hv; exact .var (by omega) (by omega)
    · rw [List.mem_singleton] at hu; subst hu; exact .var (by omega) (by omega)
theorem getD_clo {ps : List LT} (hp : ∀ p ∈ ps, Clo 0 p) {k : Nat} (hk : k < ps.length) : Clo 0 (ps.getD k []) := by
  rw [List.getD_eq_getElem?_getD, List.getElem?_eq_getElem hk]
  exact hp _ (List.getElem_mem hk)
theorem nodeF_kind {x : Nd3} (h : nodeF x = true) (g0 : ¬ x.1 = 0) (g1 : ¬ x.1 = 1) (g2 : ¬ x.1 = 2) (g3 : ¬ x.1 = 3) (g4 : ¬ x.1 = 4) : x.1 = 5 := by
  unfold nodeF at h
  rw [if_neg g0, if_neg g1, if_neg g2, if_neg g3, if_neg g4] at h
  split at h
  · assumption
  · cases h
theorem nodeF_next {x : Nd3} (h : nodeF x = true) (h1 : x.1 = 1) : x.2.1 = 1 := by
  unfold nodeF at h
  rw [if_neg (by omega), if_pos h1, Bool.and_eq_true, decide_eq_true_eq] at h
  exact h.1
theorem Clo.bod {x : Nd3} {ps : List LT} (hx : nodeF x = true) (hl : ps.length = manyF x) (hp : ∀ p ∈ ps, Clo 0 p) : Clo x.2.1.toNat (bodLm x ps) := by
  obtain ⟨a0, a4, a2, a5⟩ := nodeF_ar hx
  have hm : (x.1 = 3 → 1 ≤ ps.length) ∧ (x.1 = 4 → 2 ≤ ps.length) ∧ (x.1 = 5 → 1 ≤ ps.length) := by
    rw [hl, manyF, folF]
    refine ⟨fun h => by rw [if_pos h]; simp, fun h => by rw [if_neg (by omega), if_pos h]; simp, fun h => by rw [if_neg (by omega), if_neg (by omega), if_pos h]; simp⟩
  unfold bodLm
  split
  · exact Clo.num 0
  · split
    · rename_i h1
      have := nodeF_next hx h1
      exact Clo.suc.apps fun v hv => by rw [List.mem_singleton] at hv; subst hv; exact .var (by omega) (by omega)
    · split
      · rename_i h2; have := a2 h2; exact .var (by omega) (by omega)
      · split
        · rename_i h3
          refine ((getD_clo hp (by have := hm.1 h3; omega)).more (by omega)).apps fun v hv => ?_
          obtain ⟨p, hpm, rfl⟩ := List.mem_map.1 hv
          exact ((hp p (List.mem_of_mem_tail hpm)).more (by omega)).apps (Clo.vs (by omega))
        · split
          · rename_i h4
            have h1 := a5 h4
            have h2 := hm.2.1 h4
            refine Clo.apps (.var (by omega) (by omega)) fun v hv => ?_
            simp only [List.mem_cons, List.not_mem_nil, or_false] at hv
            rcases hv with rfl | rfl | rfl | rfl
            · exact (getD_clo hp (by omega)).step
            · exact Clo.fal
            · exact Clo.num 0
            · exact ((getD_clo hp (by omega)).more (by omega)).apps (Clo.vs (by omega))
          · rename_i g0 g1 g2 g3 g4
            have h1 := hm.2.2 (nodeF_kind hx g0 g1 g2 g3 g4)
            have hw := (getD_clo hp (k := 0) (by omega)).loop (n := x.2.1.toNat)
            refine hw.apps fun v hv => ?_
            simp only [List.mem_cons, List.not_mem_nil, or_false] at hv
            rcases hv with rfl | rfl
            · exact hw
            · exact Clo.num 0
theorem Clo.out {x : Nd3} {ps : List LT} (hx : nodeF x = true) (hl : ps.length = manyF x) (hp : ∀ p ∈ ps, Clo 0 p) : Clo 0 (outLm x ps) :=
  Clo.abss (n := x.2.1.toNat) (by rw [Nat.zero_add]; exact Clo.bod hx hl hp)
end Go.Proofs.YtebjpmmgdkepjaaGreatDoor
