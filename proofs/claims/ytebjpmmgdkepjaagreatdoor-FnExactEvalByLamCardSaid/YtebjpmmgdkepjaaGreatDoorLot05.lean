/-
  Parts of the proof, one behind the other: contracts of the functions that the law reaches, and plain laws.
-/
import Derived.Maps.AppendAt
import Derived.OwnWalk
import Derived.Deep.Upon
import Derived.Test.YtebjpmmgdkepjaaGreatDoorLot01
import Derived.Test.YtebjpmmgdkepjaaGreatDoorLot03
import Derived.Test.YtebjpmmgdkepjaaGreatDoorLot04
/-
  Recursive functions in prefix notation in plain Lean: trees of nodes, valid trees, what both sides check. Nothing of the program.
-/
namespace Go.Proofs.YtebjpmmgdkepjaaGreatDoor
open Go.RowKit

/-- a node: kind, arity, index -/
abbrev Nd3 := Int × Int × Int
inductive FTr where
  | mk (x : Nd3) (ts : List FTr) : FTr
namespace FTr
def node : FTr → Nd3
  | mk x _ => x
def kids : FTr → List FTr
  | mk _ ts => ts
def ar (t : FTr) : Int := t.node.2.1
mutual
def flat : FTr → List Nd3
  | mk x ts => x :: flats ts
def flats : List FTr → List Nd3
  | [] => []
  | t :: ts => flat t ++ flats ts
end
end FTr
open FTr
def nodeF (x : Nd3) : Bool :=
  if x.1 = 0 then inB x.2.1 0 4 && decide (x.2.2 = 0)
  else if x.1 = 1 then decide (x.2.1 = 1) && decide (x.2.2 = 0)
  else if x.1 = 2 then inB x.2.1 1 4 && inB x.2.2 0 (x.2.1 - 1)
  else if x.1 = 3 then inB x.2.1 0 4 && inB x.2.2 1 4
  else if x.1 = 4 then inB x.2.1 1 3 && decide (x.2.2 = 0)
  else if x.1 = 5 then inB x.2.1 0 3 && decide (x.2.2 = 0)
  else false
/-- the arities of what follows a node -/
def folF (x : Nd3) : List Int := if x.1 = 3 then x.2.2 :: List.replicate x.2.2.toNat x.2.1 else if x.1 = 4 then [x.2.1 - 1, x.2.1 + 1] else if x.1 = 5 then [x.2.1 + 1] else []
def manyF (x : Nd3) : Nat := (folF x).length
mutual
def okT : FTr → Bool
  | mk x ts => nodeF x && decide (ts.map ar = folF x) && okTs ts
def okTs : List FTr → Bool
  | [] => true
  | t :: ts => okT t && okTs ts
end
mutual
/-- the shape alone -/
def okS : FTr → Bool
  | mk x ts => nodeF x && decide (ts.length = manyF x) && okSs ts
def okSs : List FTr → Bool
  | [] => true
  | t :: ts => okS t && okSs ts
end
theorem flat_mk (x : Nd3) (ts : List FTr) : flat (mk x ts) = x :: flats ts := by rw [flat]
theorem flats_nil : flats [] = [] := by rw [flats]
theorem flats_cons (t : FTr) (ts : List FTr) : flats (t :: ts) = flat t ++ flats ts := by rw [flats]
theorem flats_app : ∀ a b : List FTr, flats (a ++ b) = flats a ++ flats b
  | [], b => by rw [flats_nil]; rfl
  | t :: a, b => by rw [List.cons_append, flats_cons, flats_cons, flats_app a b, List.append_assoc]
theorem flat_pos (t : FTr) : 1 ≤ (flat t).length := by cases t; rw [flat_mk]; simp
theorem flats_mem {t : FTr} : ∀ {ts : List FTr}, t ∈ ts → (flat t).length ≤ (flats ts).length
  | u :: ts, h => by
    rw [flats_cons, List.length_append]
    rcases List.mem_cons.1 h with rfl | h
    · omega
    · have := flats_mem h; omega
theorem okT_mk (x : Nd3) (ts : List FTr) : okT (mk x ts) = (nodeF x && decide (ts.map ar = folF x) && okTs ts) := by rw [okT]
theorem okTs_nil : okTs [] = true := by rw [okTs]
theorem okTs_cons (t : FTr) (ts : List FTr) : okTs (t :: ts) = (okT t && okTs ts) := by rw [okTs]
theorem okTs_all : ∀ {ts : List FTr}, okTs ts = true ↔ ∀ t ∈ ts, okT t = true
  | [] => by simp [okTs_nil]
  | t :: ts => by rw [okTs_cons, Bool.and_eq_true, okTs_all]; simp
theorem okS_mk (x : Nd3) (ts : List FTr) : okS (mk x ts) = (nodeF x && decide (ts.length = manyF x) && okSs ts) := by rw [okS]
theorem okSs_nil : okSs [] = true := by rw [okSs]
theorem okSs_cons (t : FTr) (ts : List FTr) : okSs (t :: ts) = (okS t && okSs ts) := by rw [okSs]
theorem okSs_all : ∀ {ts : List FTr}, okSs ts = true ↔ ∀ t ∈ ts, okS t = true
  | [] => by simp [okSs_nil]
  | t :: ts => by rw [okSs_cons, Bool.and_eq_true, okSs_all]; simp
structure OkT (x : Nd3) (ts : List FTr) : Prop where
  node : nodeF x = true
  ars : ts.map ar = folF x
  kids : ∀ t ∈ ts, okT t = true
theorem okT_iff {x : Nd3} {ts : List FTr} : okT (mk x ts) = true ↔ OkT x ts := by
  rw [okT_mk, Bool.and_eq_true, Bool.and_eq_true, decide_eq_true_eq, okTs_all]
  exact ⟨fun h => ⟨h.1.1, h.1.2, h.2⟩, fun h => ⟨⟨h.node, h.ars⟩, h.kids⟩⟩
theorem okS_iff {x : Nd3} {ts : List FTr} : okS (mk x ts) = true ↔ nodeF x = true ∧ ts.length = manyF x ∧ ∀ t ∈ ts, okS t = true := by
  rw [okS_mk, Bool.and_eq_true, Bool.and_eq_true, decide_eq_true_eq, okSs_all, and_assoc]
/-- an induction over trees -/
theorem FTr.ind {P : FTr → Prop} (h : ∀ x ts, (∀ t ∈ ts, P t) → P (mk x ts)) (t : FTr) : P t := by
  have all : ∀ n t, (flat t).length ≤ n → P t := by
    intro n
    induction n with
    | zero => intro t ht; have := flat_pos t; omega
    | succ n ih =>
      intro t ht
      obtain ⟨x, ts⟩ := t
      rw [flat_mk, List.length_cons] at ht
      exact h x ts fun u hu => ih u (by have := flats_mem hu; omega)
  exact all _ t (Nat.le_refl _)
theorem okT_okS (t : FTr) : okT t = true → okS t = true := by
  refine FTr.ind (P := fun t => okT t = true → okS t = true) (fun x ts ih h => ?_) t
  have h := okT_iff.1 h
  refine okS_iff.2 ⟨h.node, ?_, fun u hu => ih u hu (h.kids u hu)⟩
  rw [manyF, ← h.ars, List.length_map]

/-! ### what the program checks: the end of the function that begins at a node -/
def feGo (g : List Nd3 → Int → Option Nat) : List Nd3 → List Int → Option Nat
  | _, [] => some 0
  | l, a :: q => match g l a with
    | none => none
    | some p => (feGo g (l.drop p) q).map (p + ·)
def feE : Nat → List Nd3 → Int → Option Nat
  | 0, _, _ => none
  | _ + 1, [], _ => none
  | N + 1, x :: l, a => if (0 ≤ a ∧ x.2.1 ≠ a) ∨ nodeF x = false then none else (feGo (feE N) l (folF x)).map (· + 1)
theorem folF_nn {x : Nd3} (h : nodeF x = true) : ∀ a ∈ folF x, 0 ≤ a := by
  obtain ⟨k, a, i⟩ := x
  unfold nodeF at h
  unfold folF
  simp only at h ⊢
  intro b hb
  by_cases h3 : k = 3
  · subst h3
    simp at h
    have h1 := inB_t h.1; have h2 := inB_t h.2
    simp at hb
    omega
  rw [if_neg h3] at hb
  by_cases h4 : k = 4
  · subst h4
    simp at h
    have h1 := inB_t h.1
    simp at hb
    omega
  rw [if_neg h4] at hb
  by_cases h5 : k = 5
  · subst h5
    simp at h
    have h1 := inB_t h.1
    simp at hb
    omega
  rw [if_neg h5] at hb
  cases hb
theorem feGo_tree {g : List Nd3 → Int → Option Nat} (hg : ∀ l a p, g l a = some p → ∃ t r, okT t = true ∧ (a < 0 ∨ ar t = a) ∧ (flat t).length = p ∧ l = flat t ++ r) :
    ∀ {q : List Int} {l : List Nd3} {p : Nat}, (∀ a ∈ q, 0 ≤ a) → feGo g l q = some p → ∃ ts r, (∀ t ∈ ts, okT t = true) ∧ ts.map ar = q ∧ (flats ts).length = p ∧ l = flats ts ++ r
  | [], l, p, _, h => by
    rw [feGo] at h
    injection h with h
    exact ⟨[], l, (fun t ht => by cases ht), rfl, by rw [flats_nil]; exact h, by rw [flats_nil]; rfl⟩
  | a :: q, l, p, hq, h => by
    rw [feGo] at h
    cases h1 : g l a with
    | none => rw [h1] at h; cases h
    | some p1 =>
      rw [h1] at h
      obtain ⟨p2, h2, rfl⟩ := Option.map_eq_some_iff.1 h
      obtain ⟨t, r, e1, e2, e3, e4⟩ := hg _ _ _ h1
      rw [e4, List.drop_left' e3] at h2
      obtain ⟨ts, r2, f1, f2, f3, f4⟩ := feGo_tree hg (fun b hb => hq b (List.mem_cons_of_mem _ hb)) h2
      have ha := hq a (by simp)
      refine ⟨t :: ts, r2, fun u hu => ?_, ?_, ?_, ?_⟩
      · rcases List.mem_cons.1 hu with rfl | hu
        · exact e1
        · exact f1 u hu
      · rw [List.map_cons, f2, e2.resolve_left (by omega)]
      · rw [flats_cons, List.length_append]; omega
      · rw [e4, f4, flats_cons, List.append_assoc]
theorem feE_tree : ∀ (N : Nat) (l : List Nd3) (a : Int) (p : Nat), feE N l a = some p → ∃ t r, okT t = true ∧ (a < 0 ∨ ar t = a) ∧ (flat t).length = p ∧ l = flat t ++ r
  | 0, l, a, p, h => by rw [feE] at h; cases h
  | N + 1, [], a, p, h => by rw [feE] at h; cases h
  | N + 1, x :: l, a, p, h => by
    rw [feE] at h
    split at h
    · cases h
    · rename_i hc
      obtain ⟨p1, h1, rfl⟩ := Option.map_eq_some_iff.1 h
      have hn : nodeF x = true := by cases hq : nodeF x; exact absurd (.inr hq) hc; rfl
      obtain ⟨ts, r, f1, f2, f3, f4⟩ := feGo_tree (feE_tree N) (folF_nn hn) h1
      refine ⟨mk x ts, r, okT_iff.2 ⟨hn, f2, f1⟩, ?_, ?_, ?_⟩
      · by_cases h0 : a < 0
        · exact .inl h0
        · exact .inr (Classical.byContradiction fun e => hc (.inl ⟨by omega, e⟩))
      · rw [flat_mk, List.length_cons]; omega
      · rw [f4, flat_mk]; rfl
theorem tree_feGo {g : List Nd3 → Int → Option Nat} : ∀ {ts : List FTr} (r : List Nd3), (∀ t ∈ ts, ∀ r, g (flat t ++ r) (ar t) = some (flat t).length) → feGo g (flats ts ++ r) (ts.map ar) = some (flats ts).length
  | [], r, _ => by rw [flats_nil]; rfl
  | t :: ts, r, h => by
    rw [flats_cons, List.append_assoc, List.map_cons, feGo, h t (by simp)]
    simp only
    rw [List.drop_left, tree_feGo r fun u hu => h u (List.mem_cons_of_mem _ hu), List.length_append]; rfl
theorem tree_feE (t : FTr) : ∀ (N : Nat) (a : Int) (r : List Nd3), okT t = true → (a < 0 ∨ ar t = a) → (flat t).length ≤ N → feE N (flat t ++ r) a = some (flat t).length := by
  refine FTr.ind (P := fun t => ∀ (N : Nat) (a : Int) (r : List Nd3), okT t = true → (a < 0 ∨ ar t = a) → (flat t).length ≤ N → feE N (flat t ++ r) a = some (flat t).length) (fun x ts ih N a r h ha hN => ?_) t
  have h := okT_iff.1 h
  rw [flat_mk, List.length_cons] at hN
  obtain ⟨N, rfl⟩ : ∃ M, N = M + 1 := ⟨N - 1, by omega⟩
  have ha : a < 0 ∨ x.2.1 = a := ha
  rw [flat_mk, List.cons_append, feE, if_neg (by rintro (⟨h0, h1⟩ | h1); · exact h1 (ha.resolve_left (by omega))
                                                 · rw [h.node] at h1; cases h1), ← h.ars, tree_feGo r fun u hu r => ih u hu N (ar u) r (h.kids u hu) (.inr rfl) (by have := flats_mem hu; omega), List.length_cons]
  rfl
/-- a list that is one valid function -/
def IsF (f : List Nd3) : Prop := ∃ t, okT t = true ∧ f = flat t
def validF (f : List Nd3) : Bool := inB f.length 1 60 && decide (feE f.length f (-1) = some f.length)
theorem validF_iff {f : List Nd3} : validF f = true ↔ f.length ≤ 60 ∧ IsF f := by
  rw [validF, Bool.and_eq_true, decide_eq_true_eq]
  constructor
  · rintro ⟨h1, h2⟩
    have h1 := inB_t h1
    obtain ⟨t, r, e1, _, e3, e4⟩ := feE_tree _ _ _ _ h2
    have hr : r = [] := by
      have h5 := congrArg List.length e4
      rw [List.length_append] at h5
      exact List.length_eq_zero_iff.1 (by omega)
    subst hr
    exact ⟨by omega, t, e1, by rw [e4, List.append_nil]⟩
  · rintro ⟨h1, t, h2, rfl⟩
    have := flat_pos t
    have h3 := tree_feE t (flat t).length (-1) [] h2 (.inl (by omega)) (Nat.le_refl _)
    rw [List.append_nil] at h3
    exact ⟨inB_of (by omega) (by omega), h3⟩

/-! ### what the reference checks: nodes and shape, then the arities at each node -/
def nsE : List Nd3 → Nat → Option Nat
  | _, 0 => some 0
  | [], _ + 1 => none
  | x :: l, n + 1 => if nodeF x = true then (nsE l (n + manyF x)).map (· + 1) else none
theorem nsE_zero (l : List Nd3) : nsE l 0 = some 0 := by cases l <;> rfl
theorem nsE_tree : ∀ {l : List Nd3} {n p : Nat}, nsE l n = some p → ∃ ts r, ts.length = n ∧ (∀ t ∈ ts, okS t = true) ∧ (flats ts).length = p ∧ l = flats ts ++ r
  | l, 0, p, h => by
    rw [nsE_zero] at h; injection h with h
    exact ⟨[], l, rfl, (fun t ht => by cases ht), by rw [flats_nil]; exact h, by rw [flats_nil]; rfl⟩
  | [], n + 1, p, h => by cases h
  | x :: l, n + 1, p, h => by
    rw [nsE] at h
    split at h
    · rename_i hn
      obtain ⟨q, hq, rfl⟩ := Option.map_eq_some_iff.1 h
      obtain ⟨ts, r, h1, h2, h3, h4⟩ := nsE_tree hq
      have e : ts = ts.take (manyF x) ++ ts.drop (manyF x) := (List.take_append_drop _ _).symm
      refine ⟨mk x (ts.take (manyF x)) :: ts.drop (manyF x), r, ?_, fun u hu => ?_, ?_, ?_⟩
      · rw [List.length_cons, List.length_drop]; omega
      · rcases List.mem_cons.1 hu with rfl | hu
        · exact okS_iff.2 ⟨hn, by rw [List.length_take]; omega, fun v hv => h2 v (List.mem_of_mem_take hv)⟩
        · exact h2 u (List.mem_of_mem_drop hu)
      · rw [flats_cons, flat_mk, List.cons_append, ← flats_app, ← e, List.length_cons, h3]
      · rw [flats_cons, flat_mk, List.cons_append, ← flats_app, ← e, h4]; rfl
    · cases h
theorem tree_nsE : ∀ (n : Nat) (ts : List FTr) (r : List Nd3), (flats ts).length ≤ n → (∀ t ∈ ts, okS t = true) → nsE (flats ts ++ r) ts.length = some (flats ts).length
  | n, [], r, _, _ => by rw [flats_nil]; exact nsE_zero _
  | 0, t :: ts, r, h, _ => by rw [flats_cons, List.length_append] at h; have := flat_pos t; omega
  | n + 1, mk x ks :: ts, r, h, ho => by
    obtain ⟨h1, h2, h3⟩ := okS_iff.1 (ho (mk x ks) (by simp))
    have e : flats (mk x ks :: ts) = x :: flats (ks ++ ts) := by rw [flats_cons, flat_mk, flats_app]; rfl
    rw [e, List.length_cons] at h
    have ih := tree_nsE n (ks ++ ts) r (by omega) (fun u hu => by
      rcases List.mem_append.1 hu with hu | hu
      · exact h3 u hu
      · exact ho u (List.mem_cons_of_mem _ hu))
    rw [List.length_append, h2, Nat.add_comm] at ih
    rw [e, List.cons_append, List.length_cons, nsE, if_pos h1, ih, List.length_cons]; rfl
mutual
/-- all functions within a function, in the order of their nodes -/
def subsT : FTr → List FTr
  | mk x ts => mk x ts :: subsTs ts
def subsTs : List FTr → List FTr
  | [] => []
  | t :: ts => subsT t ++ subsTs ts
end
theorem subsT_mk (x : Nd3) (ts : List FTr) : subsT (mk x ts) = mk x ts :: subsTs ts := by rw [subsT]
theorem subsTs_nil : subsTs [] = [] := by rw [subsTs]
theorem subsTs_cons (t : FTr) (ts : List FTr) : subsTs (t :: ts) = subsT t ++ subsTs ts := by rw [subsTs]
theorem subsTs_mem {s : FTr} : ∀ {ts : List FTr}, s ∈ subsTs ts ↔ ∃ t ∈ ts, s ∈ subsT t
  | [] => by simp [subsTs_nil]
  | t :: ts => by rw [subsTs_cons, List.mem_append, subsTs_mem]; simp
theorem subsT_len (t : FTr) : (subsT t).length = (flat t).length := by
  refine FTr.ind (P := fun t => (subsT t).length = (flat t).length) (fun x ts ih => ?_) t
  have hl : ∀ q : List FTr, (∀ t ∈ q, t ∈ ts) → (subsTs q).length = (flats q).length := by
    intro q
    induction q with
    | nil => intro _; rw [subsTs_nil, flats_nil]; rfl
    | cons t q ihq => intro h; rw [subsTs_cons, flats_cons, List.length_append, List.length_append, ih t (h t (by simp)), ihq fun u hu => h u (List.mem_cons_of_mem _ hu)]
  rw [subsT_mk, flat_mk, List.length_cons, List.length_cons, hl ts fun _ h => h]
theorem subsT_at (t : FTr) : ∀ (k : Nat) (s : FTr), (subsT t)[k]? = some s → ∃ r, (flat t).drop k = flat s ++ r := by
  refine FTr.ind (P := fun t => ∀ (k : Nat) (s : FTr), (subsT t)[k]? = some s → ∃ r, (flat t).drop k = flat s ++ r) (fun x ts ih k s h => ?_) t
  have hl : ∀ q : List FTr, (∀ t ∈ q, t ∈ ts) → ∀ k s, (subsTs q)[k]? = some s → ∃ r, (flats q).drop k = flat s ++ r := by
    intro q
    induction q with
    | nil => intro _ k s h; rw [subsTs_nil] at h; simp at h
    | cons t q ihq =>
      intro hq k s h
      rw [subsTs_cons] at h
      rw [flats_cons]
      rcases Nat.lt_or_ge k (flat t).length with hk | hk
      · rw [List.getElem?_append_left (by rw [subsT_len]; exact hk)] at h
        obtain ⟨r, hr⟩ := ih t (hq t (by simp)) k s h
        exact ⟨r ++ flats q, by rw [List.drop_append_of_le_length (by omega), hr, List.append_assoc]⟩
      · rw [List.getElem?_append_right (by rw [subsT_len]; exact hk), subsT_len] at h
        obtain ⟨r, hr⟩ := ihq (fun u hu => hq u (List.mem_cons_of_mem _ hu)) _ s h
        refine ⟨r, ?_⟩
        rw [List.drop_append, List.drop_eq_nil_of_le hk, List.nil_append, hr]
  cases k with
  | zero =>
    rw [subsT_mk] at h
    simp only [List.getElem?_cons_zero, Option.some.injEq] at h
    subst h
    exact ⟨[], by simp⟩
  | succ k =>
    rw [subsT_mk, List.getElem?_cons_succ] at h
    rw [flat_mk, List.drop_succ_cons]
    exact hl ts (fun _ h => h) k s h
def fitT (t : FTr) : Bool := decide (t.kids.map ar = folF t.node)
theorem okT_subs (t : FTr) : okT t = true ↔ okS t = true ∧ ∀ s ∈ subsT t, fitT s = true := by
  refine FTr.ind (P := fun t => okT t = true ↔ okS t = true ∧ ∀ s ∈ subsT t, fitT s = true) (fun x ts ih => ?_) t
  constructor
  · intro h
    refine ⟨okT_okS _ h, fun s hs => ?_⟩
    have h := okT_iff.1 h
    rw [subsT_mk] at hs
    rcases List.mem_cons.1 hs with rfl | hs
    · exact decide_eq_true h.ars
    · obtain ⟨u, hu, hs⟩ := subsTs_mem.1 hs
      exact ((ih u hu).1 (h.kids u hu)).2 s hs
  · rintro ⟨h1, h2⟩
    obtain ⟨n1, n2, n3⟩ := okS_iff.1 h1
    rw [subsT_mk] at h2
    refine okT_iff.2 ⟨n1, of_decide_eq_true (show decide (ts.map ar = folF x) = true from h2 (mk x ts) (by simp)), fun u hu => (ih u hu).2 ⟨n3 u hu, fun s hs => h2 s (List.mem_cons_of_mem _ (subsTs_mem.2 ⟨u, hu, hs⟩))⟩⟩
theorem okS_subs (t : FTr) : okS t = true → ∀ s ∈ subsT t, okS s = true := by
  refine FTr.ind (P := fun t => okS t = true → ∀ s ∈ subsT t, okS s = true) (fun x ts ih h s hs => ?_) t
  rw [subsT_mk] at hs
  rcases List.mem_cons.1 hs with rfl | hs
  · exact h
  · obtain ⟨u, hu, hs⟩ := subsTs_mem.1 hs
    exact ih u hu ((okS_iff.1 h).2.2 u hu) s hs
end Go.Proofs.YtebjpmmgdkepjaaGreatDoor
/-
  Functions as lambda terms in plain Lean: applications, abstractions, numerals, the term of a function. Nothing of the program.
-/
namespace Go.Proofs.YtebjpmmgdkepjaaGreatDoor
open Go.RowKit
open FTr

abbrev LT := List (Int × Int)
def appLm (t : LT) (args : List LT) : LT := List.replicate args.length ((2 : Int), (0 : Int)) ++ (t ++ args.flatten)
def absLm (n : Nat) (t : LT) : LT := List.replicate n ((1 : Int), (0 : Int)) ++ t
def varLm (i : Int) : LT := [(0, i)]
def numB : Nat → LT
  | 0 => [(0, 0)]
  | n + 1 => (2, 0) :: (0, 1) :: numB n
def numLm (n : Nat) : LT := absLm 2 (numB n)
/-- the successor -/
def sucLm : LT := [(1, 0), (1, 0), (1, 0), (2, 0), (0, 1), (2, 0), (2, 0), (0, 2), (0, 1), (0, 0)]
def falLm : LT := [(1, 0), (1, 0), (0, 0)]
/-- the variables of the arguments from one on, within so many abstractions -/
def vsLm (n frm within : Nat) : List LT := (List.range (n - frm)).map fun j => varLm ((n : Int) - 1 - ((frm + j : Nat) : Int) + (within : Int))
def stepLm (n : Nat) (p : LT) : LT := absLm 3 (appLm (varLm 2) [appLm sucLm [varLm 1], appLm p ([varLm 1, varLm 0] ++ vsLm n 1 3)])
def loopLm (n : Nat) (p : LT) : LT := absLm 2 (appLm (appLm p (varLm 0 :: vsLm n 0 2)) [absLm 1 (appLm (varLm 2) [varLm 2, appLm sucLm [varLm 1]]), varLm 0])
def bodLm (x : Nd3) (ps : List LT) : LT :=
  if x.1 = 0 then numLm 0
  else if x.1 = 1 then appLm sucLm [varLm 0]
  else if x.1 = 2 then varLm (x.2.1 - 1 - x.2.2)
  else if x.1 = 3 then appLm (ps.getD 0 []) (ps.tail.map fun p => appLm p (vsLm x.2.1.toNat 0 0))
  else if x.1 = 4 then appLm (varLm (x.2.1 - 1)) [stepLm x.2.1.toNat (ps.getD 1 []), falLm, numLm 0, appLm (ps.getD 0 []) (vsLm x.2.1.toNat 1 0)]
  else appLm (loopLm x.2.1.toNat (ps.getD 0 [])) [loopLm x.2.1.toNat (ps.getD 0 []), numLm 0]
def outLm (x : Nd3) (ps : List LT) : LT := absLm x.2.1.toNat (bodLm x ps)
mutual
/-- the term of a function, or none if a part is too long -/
def trmO : FTr → Option LT
  | mk x ts => match trmsO ts with
    | none => none
    | some ps => if validL (outLm x ps) = true then some (outLm x ps) else none
def trmsO : List FTr → Option (List LT)
  | [] => some []
  | t :: ts => match trmO t with
    | none => none
    | some u => (trmsO ts).map (u :: ·)
end
theorem trmO_mk (x : Nd3) (ts : List FTr) : trmO (mk x ts) = match trmsO ts with
    | none => none
    | some ps => if validL (outLm x ps) = true then some (outLm x ps) else none := by rw [trmO]
theorem trmO_no {x : Nd3} {ts : List FTr} (h : trmsO ts = none) : trmO (mk x ts) = none := by rw [trmO_mk, h]
theorem trmO_yes {x : Nd3} {ts : List FTr} {ps : List LT} (h : trmsO ts = some ps) : trmO (mk x ts) = if validL (outLm x ps) = true then some (outLm x ps) else none := by rw [trmO_mk, h]
theorem trmsO_nil : trmsO [] = some [] := by rw [trmsO]
theorem trmsO_no {t : FTr} {ts : List FTr} (h : trmO t = none) : trmsO (t :: ts) = none := by rw [trmsO, h]
theorem trmsO_yes {t : FTr} {ts : List FTr} {u : LT} (h : trmO t = some u) : trmsO (t :: ts) = (trmsO ts).map (u :: ·) := by rw [trmsO, h]
theorem trmO_valid {t : FTr} {u : LT} (h : trmO t = some u) : validL u = true := by
  cases t with
  | mk x ts =>
    rw [trmO_mk] at h
    split at h
    · cases h
    · split at h
      · rename_i hv; injection h with h; subst h; exact hv
      · cases h
theorem trmsO_all : ∀ {ts : List FTr} {ps : List LT}, trmsO ts = some ps → ps.length = ts.length ∧ ∀ p ∈ ps, validL p = true
  | [], ps, h => by rw [trmsO_nil] at h; injection h with h; subst h; exact ⟨rfl, fun p hp => by cases hp⟩
  | t :: ts, ps, h => by
    cases ht : trmO t with
    | none => rw [trmsO_no ht] at h; cases h
    | some u =>
      rw [trmsO_yes ht] at h
      cases hs : trmsO ts with
      | none => rw [hs] at h; cases h
      | some qs =>
        rw [hs] at h; injection h with h; subst h
        obtain ⟨h1, h2⟩ := trmsO_all hs
        refine ⟨by simp [h1], fun p hp => ?_⟩
        rcases List.mem_cons.1 hp with rfl | hp
        · exact trmO_valid ht
        · exact h2 p hp
/-- one term in prefix notation, of whatever length -/
structure WfL (t : LT) : Prop where
  ok : ∀ x ∈ t, okL x = true
  one : endP manyL t 1 = some t.length
theorem WfL.of_valid {t : LT} (h : validL t = true) : WfL t := ⟨validL_ok h, (validL_end h).1⟩
theorem endP_moreL {f : Int → Nat} : ∀ {l r : List (Int × Int)} {n p : Nat}, endP f l n = some p → endP f (l ++ r) n = some p
  | l, r, 0, p, h => by rw [endP_zero] at h ⊢; exact h
  | [], r, n + 1, p, h => by rw [endP_nil] at h; cases h
  | x :: l, r, n + 1, p, h => by
    rw [endP_cons] at h
    obtain ⟨q, hq, rfl⟩ := Option.map_eq_some_iff.1 h
    rw [List.cons_append, endP_cons, endP_moreL hq]; rfl
theorem WfL.valid {t : LT} (h : WfL t) : validL t = decide (t.length ≤ 400) := by
  have h1 : 1 ≤ t.length := by
    have := h.one
    cases t with
    | nil => rw [endP_nil] at this; cases this
    | cons x l => simp
  rw [validL, h.one]
  have h2 : t.all okL = true := List.all_eq_true.2 h.ok
  rw [h2, Bool.and_true, decide_eq_true rfl, Bool.and_true]
  by_cases h4 : t.length ≤ 400
  · rw [decide_eq_true h4]; exact inB_of (by omega) (by omega)
  · rw [decide_eq_false h4]
    cases hb : inB t.length 1 400 with
    | false => rfl
    | true => have := inB_t hb; omega
theorem WfL.list : ∀ {args : List LT}, (∀ t ∈ args, WfL t) → (∀ x ∈ args.flatten, okL x = true) ∧ endP manyL args.flatten args.length = some args.flatten.length
  | [], _ => ⟨(fun x hx => by cases hx), endP_zero _ _⟩
  | t :: l, h => by
    obtain ⟨h1, h2⟩ := WfL.list fun u hu => h u (List.mem_cons_of_mem _ hu)
    have ht := h t (by simp)
    refine ⟨fun x hx => ?_, ?_⟩
    · rw [List.flatten_cons, List.mem_append] at hx
      rcases hx with hx | hx
      · exact ht.ok x hx
      · exact h1 x hx
    · rw [List.flatten_cons, List.length_cons, Nat.add_comm, List.length_append]
      exact endP_app (endP_moreL ht.one) (by rw [List.drop_left]; exact h2)
theorem endP_appsL {l : List (Int × Int)} {p : Nat} : ∀ {m n : Nat}, endP manyL l (n + 1 + m) = some p → endP manyL (List.replicate m (2, 0) ++ l) (n + 1) = some (m + p)
  | 0, n, h => by simpa using h
  | m + 1, n, h => by
    rw [List.replicate_succ, List.cons_append, endP_cons]
    show (endP manyL (List.replicate m (2, 0) ++ l) (n + 1 + 1)).map _ = _
    rw [endP_appsL (m := m) (n := n + 1) (by rw [show n + 1 + 1 + m = n + 1 + (m + 1) by omega]; exact h)]
    simp; omega
theorem endP_abssL {l : List (Int × Int)} {p n : Nat} : ∀ {m : Nat}, endP manyL l (n + 1) = some p → endP manyL (List.replicate m (1, 0) ++ l) (n + 1) = some (m + p)
  | 0, h => by simpa using h
  | m + 1, h => by
    rw [List.replicate_succ, List.cons_append, endP_cons]
    show (endP manyL (List.replicate m (1, 0) ++ l) (n + 1)).map _ = _
    rw [endP_abssL h]
    simp; omega
theorem WfL.app {t : LT} {args : List LT} (h : WfL t) (ha : ∀ u ∈ args, WfL u) : WfL (appLm t args) := by
  obtain ⟨h1, h2⟩ := WfL.list ha
  refine ⟨fun x hx => ?_, ?_⟩
  · rw [appLm, List.mem_append, List.mem_append] at hx
    rcases hx with hx | hx | hx
    · rw [(List.mem_replicate.1 hx).2]; decide
    · exact h.ok x hx
    · exact h1 x hx
  · have h3 : endP manyL (t ++ args.flatten) (1 + args.length) = some (t.length + args.flatten.length) := endP_app (endP_moreL h.one) (by rw [List.drop_left]; exact h2)
    have h4 := endP_appsL (m := args.length) (n := 0) (l := t ++ args.flatten) (by rw [Nat.zero_add]; exact h3)
    rw [Nat.zero_add] at h4
    rw [appLm, h4, List.length_append, List.length_replicate, List.length_append]
theorem WfL.abs {t : LT} (h : WfL t) (n : Nat) : WfL (absLm n t) := by
  refine ⟨fun x hx => ?_, ?_⟩
  · rw [absLm, List.mem_append] at hx
    rcases hx with hx | hx
    · rw [(List.mem_replicate.1 hx).2]; decide
    · exact h.ok x hx
  · have h4 := endP_abssL (m := n) (n := 0) h.one
    rw [Nat.zero_add] at h4
    rw [absLm, h4, List.length_append, List.length_replicate]
theorem WfL.var {i : Int} (h0 : 0 ≤ i) (h1 : i ≤ 399) : WfL (varLm i) := by
  refine ⟨fun x hx => ?_, rfl⟩
  rw [varLm, List.mem_singleton] at hx
  subst hx
  simp [okL, inB]; omega
theorem WfL.numB : ∀ n, WfL (numB n)
  | 0 => ⟨by decide, rfl⟩
  | n + 1 => by
    have h := WfL.numB n
    refine ⟨fun x hx => ?_, ?_⟩
    · rcases List.mem_cons.1 hx with rfl | hx
      · decide
      · rcases List.mem_cons.1 hx with rfl | hx
        · decide
        · exact h.ok x hx
    · show endP manyL ((2, 0) :: (0, 1) :: Go.Proofs.YtebjpmmgdkepjaaGreatDoor.numB n) (0 + 1) = _
      rw [endP_cons]
      show (endP manyL ((0, 1) :: Go.Proofs.YtebjpmmgdkepjaaGreatDoor.numB n) (1 + 1)).map _ = _
      rw [endP_cons]
      show ((endP manyL (Go.Proofs.YtebjpmmgdkepjaaGreatDoor.numB n) 1).map _).map _ = _
      rw [h.one]; simp [Go.Proofs.YtebjpmmgdkepjaaGreatDoor.numB]
theorem WfL.num (n : Nat) : WfL (numLm n) := (WfL.numB n).abs 2
theorem WfL.suc : WfL sucLm := ⟨by decide, by decide⟩
theorem WfL.fal : WfL falLm := ⟨by decide, by decide⟩
theorem WfL.vs {n frm within : Nat} (h : n + within ≤ 400) : ∀ t ∈ vsLm n frm within, WfL t := by
  intro t ht
  obtain ⟨j, hj, rfl⟩ := List.mem_map.1 ht
  have := List.mem_range.1 hj
  exact WfL.var (by omega) (by omega)
theorem nodeF_ar {x : Nd3} (h : nodeF x = true) : 0 ≤ x.2.1 ∧ x.2.1 ≤ 4 ∧ (x.1 = 2 → 0 ≤ x.2.2 ∧ x.2.2 ≤ x.2.1 - 1) ∧ (x.1 = 4 → 1 ≤ x.2.1) := by
  unfold nodeF at h
  split at h
  · rw [Bool.and_eq_true] at h; have := inB_t h.1; omega
  · split at h
    · rw [Bool.and_eq_true, decide_eq_true_eq] at h; omega
    · split at h
      · rw [Bool.and_eq_true] at h; have h1 := inB_t h.1; have h2 := inB_t h.2; omega
      · split at h
        · rw [Bool.and_eq_true] at h; have h1 := inB_t h.1; omega
        · split at h
          · rw [Bool.and_eq_true] at h; have h1 := inB_t h.1; omega
          · split at h
            · rw [Bool.and_eq_true] at h; have h1 := inB_t h.1; omega
            · cases h
theorem getD_wf {ps : List LT} (hp : ∀ p ∈ ps, WfL p) {k : Nat} (hk : k < ps.length) : WfL (ps.getD k []) := by
  rw [List.getD_eq_getElem?_getD, List.getElem?_eq_getElem hk]
  exact hp _ (List.getElem_mem hk)
theorem WfL.step {n : Nat} {p : LT} (h : WfL p) (hn : n ≤ 4) : WfL (stepLm n p) := by
  refine WfL.abs (WfL.app (WfL.var (by omega) (by omega)) fun u hu => ?_) 3
  rcases List.mem_cons.1 hu with rfl | hu
  · exact WfL.suc.app fun v hv => by rw [List.mem_singleton] at hv; subst hv; exact WfL.var (by omega) (by omega)
  · rw [List.mem_singleton] at hu
    subst hu
    refine h.app fun v hv => ?_
    rcases List.mem_append.1 hv with hv | hv
    · rcases List.mem_cons.1 hv with rfl | hv
      · exact WfL.var (by omega) (by omega)
      · rw [List.mem_singleton] at hv; subst hv; exact WfL.var (by omega) (by omega)
    · exact WfL.vs (by omega) v hv
theorem WfL.loop {n : Nat} {p : LT} (h : WfL p) (hn : n ≤ 4) : WfL (loopLm n p) := by
  refine WfL.abs (WfL.app (WfL.app h fun v hv => ?_) fun u hu => ?_) 2
  · rcases List.mem_cons.1 hv with rfl | hv
    · exact WfL.var (by omega) (by omega)
    · exact WfL.vs (by omega) v hv
  · rcases List.mem_cons.1 hu with rfl | hu
    · refine WfL.abs (WfL.app (WfL.var (by omega) (by omega)) fun v hv => ?_) 1
      rcases List.mem_cons.1 hv with rfl | hv
      · exact WfL.var (by omega) (by omega)
      · rw [List.mem_singleton] at hv
        subst hv
        exact WfL.suc.app fun v hv => by rw [List.mem_singleton] at hv; subst hv; exact WfL.var (by omega) (by omega)
    · rw [List.mem_singleton] at hu; subst hu; exact WfL.var (by omega) (by omega)
theorem WfL.bod {x : Nd3} {ps : List LT} (hx : nodeF x = true) (hl : ps.length = manyF x) (hp : ∀ p ∈ ps, WfL p) : WfL (bodLm x ps) := by
  obtain ⟨a0, a4, a2, a5⟩ := nodeF_ar hx
  have hm : (x.1 = 3 → 1 ≤ ps.length) ∧ (x.1 = 4 → 2 ≤ ps.length) ∧ (x.1 = 5 → 1 ≤ ps.length) := by
    rw [hl, manyF, folF]
    refine ⟨fun h => by rw [if_pos h]; simp, fun h => by rw [if_neg (by omega), if_pos h]; simp, fun h => by rw [if_neg (by omega), if_neg (by omega), if_pos h]; simp⟩
  unfold bodLm
  split
  · exact WfL.num 0
  · split
    · exact WfL.suc.app fun v hv => by rw [List.mem_singleton] at hv; subst hv; exact WfL.var (by omega) (by omega)
    · split
      · rename_i h2; have := a2 h2; exact WfL.var (by omega) (by omega)
      · split
        · rename_i h3
          refine (getD_wf hp (by have := hm.1 h3; omega)).app fun v hv => ?_
          obtain ⟨p, hpm, rfl⟩ := List.mem_map.1 hv
          exact (hp p (List.mem_of_mem_tail hpm)).app (WfL.vs (by omega))
        · split
          · rename_i h4
            have h1 := a5 h4
            have h2 := hm.2.1 h4
            refine WfL.app (WfL.var (by omega) (by omega)) fun v hv => ?_
            simp only [List.mem_cons, List.not_mem_nil, or_false] at hv
            rcases hv with rfl | rfl | rfl | rfl
            · exact (getD_wf hp (by omega)).step (by omega)
            · exact WfL.fal
            · exact WfL.num 0
            · exact (getD_wf hp (by omega)).app (WfL.vs (by omega))
          · have h5 : x.1 = 5 := by
              rename_i g0 g1 g2 g3 g4
              unfold nodeF at hx
              rw [if_neg g0, if_neg g1, if_neg g2, if_neg g3, if_neg g4] at hx
              split at hx
              · assumption
              · cases hx
            have h1 := hm.2.2 h5
            have hw := (getD_wf hp (k := 0) (by omega)).loop (n := x.2.1.toNat) (by omega)
            refine hw.app fun v hv => ?_
            simp only [List.mem_cons, List.not_mem_nil, or_false] at hv
            rcases hv with rfl | rfl
            · exact hw
            · exact WfL.num 0
theorem outLm_valid {x : Nd3} {ps : List LT} (hx : nodeF x = true) (hl : ps.length = manyF x) (hp : ∀ p ∈ ps, validL p = true) : validL (outLm x ps) = decide ((outLm x ps).length ≤ 400) :=
  ((WfL.bod hx hl fun p h => WfL.of_valid (hp p h)).abs _).valid
end Go.Proofs.YtebjpmmgdkepjaaGreatDoor
/-
  The helpers of the laws at []Comb: sizes, copies, comparisons, marks.
-/
namespace Go.Proofs.YtebjpmmgdkepjaaGreatDoor
open Go.RowKit

end Go.Proofs.YtebjpmmgdkepjaaGreatDoor
/-
  append onto a slice of the call's own, its value written out: one law for a region's list of operations.
-/
namespace Go.Proofs.YtebjpmmgdkepjaaGreatDoor
open Go.RowKit

/-- a slice of the call's own: nil, or the head of a row in a block from B on, whose cells are known -/
def Own (w : World) (B : Nat) (e : TypeId) (size : Nat) (A : Option Addr) (n c : Nat) (vs : List Value) : Prop := w.ownsRow B e size (.slice A n c) n vs

section
variable {w w' : World} {B : Nat} {e : TypeId} {size n c : Nat} {A : Option Addr} {vs : List Value}
theorem Own.nil : Own w B e size none 0 0 [] := ⟨by simp, .inl ⟨rfl, rfl⟩⟩
theorem Own.len (h : Own w B e size A n c vs) : vs.length = n * size := h.1
theorem Own.block (h : Own w B e size A n c vs) {ad : Addr} (ha : A = some ad) : B ≤ ad.block ∧ ad.block < w.heap.size ∧ ad = ⟨ad.block, 0, none⟩ ∧ ∃ cur, w.heap[ad.block]? = some (.cells cur e (0, 0)) := by
  rcases h.2 with ⟨hv, _⟩ | ⟨g, cap, cur, hv, hB, hh, _⟩
  · injection hv with hv; rw [ha] at hv; cases hv
  · injection hv with hv; rw [ha] at hv; injection hv with hv; subst hv
    exact ⟨hB, Blk.lt hh, rfl, cur, hh⟩
theorem Own.ne_ (h : Own w B e size A n c vs) {g : Nat} {t : TypeId} {cs : Array Value} (hg : Blk w g t cs) (hne : t ≠ e) (ad : Addr) (ha : A = some ad) : ad.block ≠ g := by
  rintro rfl
  obtain ⟨_, _, _, cur, hc⟩ := h.block ha
  unfold Blk at hg
  rw [hg] at hc
  injection hc with hc
  injection hc with _ ht
  exact hne ht
theorem Own.move (h : Own w B e size A n c vs) (hk : ∀ ad, A = some ad → w'.heap[ad.block]? = w.heap[ad.block]?) : Own w' B e size A n c vs := by
  refine ⟨h.1, ?_⟩
  rcases h.2 with ⟨hv, hn⟩ | ⟨g, cap, cur, hv, hB, hh, h1, h2, h3, h4⟩
  · exact .inl ⟨hv, hn⟩
  · injection hv with ha hn hc
    subst hc
    exact .inr ⟨g, c, cur, by rw [ha], hB, (hk _ ha).trans hh, h1, h2, h3, h4⟩
theorem Own.keep (h : Own w B e size A n c vs) (hb : Below w.heap.size w w') : Own w' B e size A n c vs := h.move fun _ ha => hb.block _ (h.block ha).2.1
theorem Own.alloc (h : Own w B e size A n c vs) (o : Obj) : Own (w.alloc o) B e size A n c vs := h.keep (below_size.alloc (Nat.le_refl _) o)
theorem Own.drew (h : Own w B e size A n c vs) : Own w.drew B e size A n c vs := h
theorem Own.far (h : Own w B e size A n c vs) {p : Addr} (hp : ∀ ad, A = some ad → ad.block ≠ p.block) (u : Value) : Own (w.setCell p u) B e size A n c vs :=
  h.move fun ad ha => Below.heap_setCell w p u ad.block (hp ad ha)
theorem Own.wr (h : Own w B e 1 A n c vs) : Wr w B w.heap.size A n vs := by
  refine ⟨by rw [h.1, Nat.mul_one], fun hn => ?_⟩
  rcases h.2 with ⟨hv, h0⟩ | ⟨g, cap, cur, hv, hB, hh, h1, h2, h3, h4⟩
  · omega
  · injection hv with ha _ hc
    subst ha
    have hb : Blk w g e cur := hh
    refine ⟨_, rfl, hB, hb.lt, hb.lt, fun j v hj => ?_⟩
    rw [head_add]
    refine ⟨?_, hb.frozen j⟩
    rw [hb.cell, ← hj, ← h4, List.getElem?_take, Nat.mul_one]
    split
    · simp
    · rename_i hlt
      rw [← h4, List.getElem?_take, Nat.mul_one, if_neg hlt] at hj; cases hj
end

theorem Wr.take {w : World} {lo hi n k : Nat} {A : Option Addr} {vs : List Value} (h : Wr w lo hi A n vs) (hk : k ≤ n) : Wr w lo hi A k (vs.take k) := by
  refine ⟨by rw [List.length_take, h.1]; omega, fun hn => ?_⟩
  obtain ⟨ad, e, h1, h2, h3, hc⟩ := h.2 (by omega)
  refine ⟨ad, e, h1, h2, h3, fun j v hj => hc j v ?_⟩
  rw [List.getElem?_take] at hj
  split at hj
  · exact hj
  · cases hj
theorem Own.lit {w : World} {B : Nat} {e : TypeId} (hB : B ≤ w.heap.size) : Own (w.alloc (.cells #[] e)) B e 1 (some ⟨w.heap.size, 0, none⟩) 0 0 [] :=
  ⟨by simp, .inr ⟨w.heap.size, 0, #[], rfl, hB, heap_alloc_new w _, by omega, by simp [maxLen], by simp, by simp⟩⟩
theorem Own.made {w : World} {B : Nat} {e : TypeId} (z : Value) (c : Nat) (hB : B ≤ w.heap.size) (hc : c ≤ 10000000000000) : Own (w.alloc (.cells (Array.replicate c z) e)) B e 1 (some ⟨w.heap.size, 0, none⟩) 0 c [] :=
  ⟨by simp, .inr ⟨w.heap.size, c, Array.replicate c z, rfl, hB, heap_alloc_new w _, by omega, by simp [maxLen]; omega, by simp, by simp⟩⟩
theorem Own.keepR {w w' : World} {B : Nat} {e : TypeId} {size n c lo hi : Nat} {A : Option Addr} {vs : List Value} (h : Own w B e size A n c vs) (hk : KeepR lo hi w w') (hx : hi ≤ B) : Own w' B e size A n c vs :=
  h.move fun _ ha => hk.block _ (h.block ha).2.1 (.inr (Nat.le_trans hx (h.block ha).1))

theorem Own.wrK {w : World} {B : Nat} {e : TypeId} {k n c : Nat} {A : Option Addr} {vs : List Value} (h : Own w B e k A n c vs) : Wr w B w.heap.size A (n * k) vs := by
  refine ⟨h.1, fun hn => ?_⟩
  rcases h.2 with ⟨hv, h0⟩ | ⟨g, cap, cur, hv, hB, hh, h1, h2, h3, h4⟩
  · rw [h0] at hn; omega
  · injection hv with ha _ hc
    subst ha
    have hb : Blk w g e cur := hh
    refine ⟨_, rfl, hB, hb.lt, hb.lt, fun j v hj => ?_⟩
    rw [head_add]
    refine ⟨?_, hb.frozen j⟩
    rw [hb.cell, ← hj, ← h4, List.getElem?_take]
    split
    · simp
    · rename_i hlt
      rw [← h4, List.getElem?_take, if_neg hlt] at hj; cases hj
theorem Own.litK {w : World} {B k : Nat} {e : TypeId} (hB : B ≤ w.heap.size) : Own (w.alloc (.cells #[] e)) B e k (some ⟨w.heap.size, 0, none⟩) 0 0 [] :=
  ⟨by simp, .inr ⟨w.heap.size, 0, #[], rfl, hB, heap_alloc_new w _, by omega, by simp [maxLen], by simp, by simp⟩⟩
/-- a call that hands back a slice of its own -/
def IntsOut (xs : List Int) (w : World) (e : Ending) (w' : World) : Prop := ∃ A c, e = .returned (.slice A xs.length c) ∧ Wr w' w.heap.size w'.heap.size A xs.length (xs.map i64) ∧ Below w.heap.size w w'
/-- .. and a code -/
def IntsOut2 (R : List Int × Int) (w : World) (e : Ending) (w' : World) : Prop := ∃ A n c, e = .returned (.tuple #[.slice A n c, .int .i64 R.2]) ∧ Wr w' w.heap.size w'.heap.size A n (R.1.map i64) ∧ n ≤ 1000000 ∧ Below w.heap.size w w'

section
variable {P : Program}
theorem wp_app {ops : Array Oper} {rest : List Oper} {o : Oper} {a : Act} {w : World} {Q : Exit → Act → World → Prop} (hgd : o.guard = none) (s x : Operand) (t e : TypeId) (z : Value) (size bytes : Nat)
    (ho : o.op = .call { callee := .builtin .append, args := #[s, x], argTypes := #[t, t] })
    (ht : P.underlying t = some (.slice e)) (hinfo : (P.info? e).map (fun i => (i.zero, i.size, i.bytes)) = some (some z, size, bytes)) (hzs : z.cells.size = size) (hsz : 0 < size)
    (B : Nat) (A : Option Addr) (n c : Nat) (vs : List Value) (hs : a.eval s = .slice A n c) (hown : Own w B e size A n c vs)
    (ad : Addr) (m c' : Nat) (news : List Value) (hx : a.eval x = .slice (some ad) m c') (hm : 0 < m) (hl : news.length = m * size) (hnews : ∀ j u, news[j]? = some u → w.cell? (ad.add j) = some u) (h1 : ∀ u ∈ news, u.oneCell' = true)
    (hlen : n + m ≤ 10000000000000) (hby : (n + m) * bytes ≤ 140737488355328) (hB : B ≤ w.heap.size)
    (h : ∀ g' cap w', Own w' B e size (some ⟨g', 0, none⟩) (n + m) cap (vs ++ news) → Below B w w' → (∀ b, b < w.heap.size → (∀ ad', A = some ad' → ad'.block ≠ b) → w'.heap[b]? = w.heap[b]?) → (A = some ⟨g', 0, none⟩ ∨ g' = w.heap.size) → w.heap.size ≤ w'.heap.size →
      wpList P ops Q rest (a.put o.dst (.slice (some ⟨g', 0, none⟩) (n + m) cap)) w') : wpList P ops Q (o :: rest) a w := by
  obtain ⟨i, hi0, hi1⟩ := Option.map_eq_some_iff.1 hinfo
  simp only [Prod.mk.injEq] at hi1
  obtain ⟨e1, e2, e3⟩ := hi1
  have hbytes := hby
  obtain ⟨v', w', hrun, h2, h3, _, h5⟩ := run_append_own_at (P := P) w B t o.type e i z size bytes ht hi0 e1 e2 e3 hzs hsz (.slice A n c) n vs hown ad m c' news hl hnews h1 (by simp only [maxLen]; omega) hbytes hB
  refine wpList_plain hgd fun K hK => ?_
  unfold Oper.wp execOp
  simp only [ho, resolve, invoke, builtin, Sem.run_bind, Sem.run_pure, Result.andThen_ok, List.map_toArray, List.map_cons, List.map_nil, hs, hx, hrun]
  refine hK _ _ ?_
  obtain ⟨g', cap, hv⟩ : ∃ g' cap, v' = .slice (some ⟨g', 0, none⟩) (n + m) cap := by
    rcases h2.2 with ⟨_, h0⟩ | ⟨g', cap, _, hv, _⟩
    · omega
    · exact ⟨g', cap, hv⟩
  subst hv
  have hA : A = some ⟨g', 0, none⟩ ∨ g' = w.heap.size := by
    rcases h5 with h5 | h5
    · cases A with
      | none => simp [Value.ownBlock] at h5
      | some ad' =>
        simp [Value.ownBlock] at h5
        have := (hown.block rfl).2.2.1
        rw [this, ← h5]; exact .inl rfl
    · simp [Value.ownBlock] at h5; exact .inr h5
  have hown' : ∀ ad', A = some ad' → (Value.slice A n c).ownBlock = some ad'.block := fun ad' e => by rw [e]; rfl
  refine h g' cap w' h2 ?_ ?_ hA h3.size
  · refine ⟨h3.os, h3.tape, h3.output, h3.size, fun k hk => h3.block k (by omega) ?_⟩
    cases A with
    | none => simp [Value.ownBlock]
    | some ad' =>
      have := (hown.block rfl).1
      simp [Value.ownBlock]; omega
  · intro b hb hne
    refine h3.block b hb ?_
    cases A with
    | none => simp [Value.ownBlock]
    | some ad' =>
      have := hne ad' rfl
      simp [Value.ownBlock]; omega

/-- one element of one cell, out of a block that was just laid -/
theorem wp_app1 {ops : Array Oper} {rest : List Oper} {o : Oper} {a : Act} {w : World} {Q : Exit → Act → World → Prop} (hgd : o.guard = none) (s x : Operand) (t e : TypeId) (z : Value) (bytes : Nat)
    (ho : o.op = .call { callee := .builtin .append, args := #[s, x], argTypes := #[t, t] })
    (ht : P.underlying t = some (.slice e)) (hinfo : (P.info? e).map (fun i => (i.zero, i.size, i.bytes)) = some (some z, 1, bytes)) (hzs : z.cells.size = 1)
    (B : Nat) (A : Option Addr) (n c : Nat) (vs : List Value) (hs : a.eval s = .slice A n c) (hown : Own w B e 1 A n c vs)
    (g : Nat) (u : Value) (hx : a.eval x = .slice (some ⟨g, 0, none⟩) 1 1) (hu : w.cell? ⟨g, 0, none⟩ = some u) (h1 : u.oneCell' = true)
    (hlen : n + 1 ≤ 10000000000000) (hby : (n + 1) * bytes ≤ 140737488355328) (hB : B ≤ w.heap.size)
    (h : ∀ g' cap w', Own w' B e 1 (some ⟨g', 0, none⟩) (n + 1) cap (vs ++ [u]) → Below B w w' → (∀ b, b < w.heap.size → (∀ ad', A = some ad' → ad'.block ≠ b) → w'.heap[b]? = w.heap[b]?) → (A = some ⟨g', 0, none⟩ ∨ g' = w.heap.size) → w.heap.size ≤ w'.heap.size →
      wpList P ops Q rest (a.put o.dst (.slice (some ⟨g', 0, none⟩) (n + 1) cap)) w') : wpList P ops Q (o :: rest) a w :=
  wp_app hgd s x t e z 1 bytes ho ht hinfo hzs (by omega) B A n c vs hs hown ⟨g, 0, none⟩ 1 1 [u] hx (by omega) (by simp)
    (fun j v hj => by cases j with | zero => simp at hj; subst hj; exact hu | succ j => simp at hj) (by simpa using h1) hlen hby hB h
end
/-- append of nothing -/
theorem wp_app0 {P : Program} {ops : Array Oper} {rest : List Oper} {o : Oper} {a : Act} {w : World} {Q : Exit → Act → World → Prop} (hgd : o.guard = none) (s x : Operand) (t e : TypeId) (z : Value) (size bytes : Nat)
    (ho : o.op = .call { callee := .builtin .append, args := #[s, x], argTypes := #[t, t] })
    (ht : P.underlying t = some (.slice e)) (hinfo : (P.info? e).map (fun i => (i.zero, i.size, i.bytes)) = some (some z, size, bytes))
    (A : Option Addr) (n c : Nat) (hs : a.eval s = .slice A n c) (hle : n ≤ c) (B : Option Addr) (c' : Nat) (hx : a.eval x = .slice B 0 c')
    (h : wpList P ops Q rest (a.put o.dst (.slice A n c)) w) : wpList P ops Q (o :: rest) a w := by
  obtain ⟨i, hi0, hi1⟩ := Option.map_eq_some_iff.1 hinfo
  have hsrc : Src P i.size t (.slice B 0 c') 0 [] w := by
    cases B with
    | none => exact Src.ofNil w ht c'
    | some ad => exact Src.ofSlice w ht ad 0 c' [] (by simp) (fun j u hj => by simp at hj) (fun u hu => by cases hu)
  have hrun := run_append_nothing (P := P) w t t o.type e i ht hi0 A n c hle (.slice B 0 c') hsrc
  refine wpList_plain hgd fun K hK => ?_
  unfold Oper.wp execOp
  simp only [ho, resolve, invoke, builtin, Sem.run_bind, Sem.run_pure, Result.andThen_ok, List.map_toArray, List.map_cons, List.map_nil, hs, hx, hrun]
  exact hK _ _ h

theorem Own.cap {w : World} {B : Nat} {e : TypeId} {size n c : Nat} {A : Option Addr} {vs : List Value} (h : Own w B e size A n c vs) : n ≤ c := by
  rcases h.2 with ⟨hv, h0⟩ | ⟨g, cap, cur, hv, _, _, h1, _⟩
  · omega
  · injection hv with _ _ hc; subst hc; exact h1
end Go.Proofs.YtebjpmmgdkepjaaGreatDoor
