/-
  Recursive functions in prefix notation in plain Lean: trees of nodes, valid trees, what both sides check. Nothing of the program.
-/
import Derived.Test.YtnoapoaajidncaaDoorC01
namespace Go.Proofs.YtnoapoaajidncaaDoor
open Go.RowKit

/-- a node: kind, arity, index -/
abbrev Nd3 := Int × Int × Int
inductive FTr where
  | mk (x : Nd3) (ts : List FTr) : FTr
namespace FTr
def node : FTr → Nd3
  | mk x _ => x
def kids : FTr → List FTr
  | mk _ ts => ts
def ar (t : FTr) : Int := t.node.2.1
mutual
def flat : FTr → List Nd3
  | mk x ts => x :: flats ts
def flats : List FTr → List Nd3
  | [] => []
  | t :: ts => flat t ++ flats ts
end
end FTr
open FTr
def nodeF (x : Nd3) : Bool :=
  if x.1 = 0 then inB x.2.1 0 4 && decide (x.2.2 = 0)
  else if x.1 = 1 then decide (x.2.1 = 1) && decide (x.2.2 = 0)
  else if x.1 = 2 then inB x.2.1 1 4 && inB x.2.2 0 (x.2.1 - 1)
  else if x.1 = 3 then inB x.2.1 0 4 && inB x.2.2 1 4
  else if x.1 = 4 then inB x.2.1 1 3 && decide (x.2.2 = 0)
  else if x.1 = 5 then inB x.2.1 0 3 && decide (x.2.2 = 0)
  else false
/-- the arities of what follows a node -/
def folF (x : Nd3) : List Int := if x.1 = 3 then x.2.2 :: List.replicate x.2.2.toNat x.2.1 else if x.1 = 4 then [x.2.1 - 1, x.2.1 + 1] else if x.1 = 5 then [x.2.1 + 1] else []
def manyF (x : Nd3) : Nat := (folF x).length
mutual
def okT : FTr → Bool
  | mk x ts => nodeF x && decide (ts.map ar = folF x) && okTs ts
def okTs : List FTr → Bool
  | [] => true
  | t :: ts => okT t && okTs ts
end
mutual
/-- the shape alone -/
def okS : FTr → Bool
  | mk x ts => nodeF x && decide (ts.length = manyF x) && okSs ts
def okSs : List FTr → Bool
  | [] => true
  | t :: ts => okS t && okSs ts
end
theorem flat_mk (x : Nd3) (ts : List FTr) : flat (mk x ts) = x :: flats ts := by rw [flat]
theorem flats_nil : flats [] = [] := by rw [flats]
theorem flats_cons (t : FTr) (ts : List FTr) : flats (t :: ts) = flat t ++ flats ts := by rw [flats]
theorem flats_app : ∀ a b : List FTr, flats (a ++ b) = flats a ++ flats b
  | [], b => by rw [flats_nil]; rfl
  | t :: a, b => by rw [List.cons_append, flats_cons, flats_cons, flats_app a b, List.append_assoc]
theorem flat_pos (t : FTr) : 1 ≤ (flat t).length := by cases t; rw [flat_mk]; simp
theorem flats_mem {t : FTr} : ∀ {ts : List FTr}, t ∈ ts → (flat t).length ≤ (flats ts).length
  | u :: ts, h => by
    rw [flats_cons, List.length_append]
    rcases List.mem_cons.1 h with rfl | h
    · omega
    · have := flats_mem h; omega
theorem okT_mk (x : Nd3) (ts : List FTr) : okT (mk x ts) = (nodeF x && decide (ts.map ar = folF x) && okTs ts) := by rw [okT]
theorem okTs_nil : okTs [] = true := by rw [okTs]
theorem okTs_cons (t : FTr) (ts : List FTr) : okTs (t :: ts) = (okT t && okTs ts) := by rw [okTs]
theorem okTs_all : ∀ {ts : List FTr}, okTs ts = true ↔ ∀ t ∈ ts, okT t = true
  | [] => by simp [okTs_nil]
  | t :: ts => by rw [okTs_cons, Bool.and_eq_true, okTs_all]; simp
theorem okS_mk (x : Nd3) (ts : List FTr) : okS (mk x ts) = (nodeF x && decide (ts.length = manyF x) && okSs ts) := by rw [okS]
theorem okSs_nil : okSs [] = true := by rw [okSs]
theorem okSs_cons (t : FTr) (ts : List FTr) : okSs (t :: ts) = (okS t && okSs ts) := by rw [okSs]
theorem okSs_all : ∀ {ts : List FTr}, okSs ts = true ↔ ∀ t ∈ ts, okS t = true
  | [] => by simp [okSs_nil]
  | t :: ts => by rw [okSs_cons, Bool.and_eq_true, okSs_all]; simp
structure OkT (x : Nd3) (ts : List FTr) : Prop where
  node : nodeF x = true
  ars : ts.map ar = folF x
  kids : ∀ t ∈ ts, okT t = true
theorem okT_iff {x : Nd3} {ts : List FTr} : okT (mk x ts) = true ↔ OkT x ts := by
  rw [okT_mk, Bool.and_eq_true, Bool.and_eq_true, decide_eq_true_eq, okTs_all]
  exact ⟨fun h => ⟨h.1.1, h.1.2, h.2⟩, fun h => ⟨⟨h.node, h.ars⟩, h.kids⟩⟩
theorem okS_iff {x : Nd3} {ts : List FTr} : okS (mk x ts) = true ↔ nodeF x = true ∧ ts.length = manyF x ∧ ∀ t ∈ ts, okS t = true := by
  rw [okS_mk, Bool.and_eq_true, Bool.and_eq_true, decide_eq_true_eq, okSs_all, and_assoc]
/-- an induction over trees -/
theorem FTr.ind {P : FTr → Prop} (h : ∀ x ts, (∀ t ∈ ts, P t) → P (mk x ts)) (t : FTr) : P t := by
  have all : ∀ n t, (flat t).length ≤ n → P t := by
    intro n
    induction n with
    | zero => intro t ht; have := flat_pos t; omega
    | succ n ih =>
      intro t ht
      obtain ⟨x, ts⟩ := t
      rw [flat_mk, List.length_cons] at ht
      exact h x ts fun u hu => ih u (by have := flats_mem hu; omega)
  exact all _ t (Nat.le_refl _)
theorem okT_okS (t : FTr) : okT t = true → okS t = true := by
  refine FTr.ind (P := fun t => okT t = true → okS t = true) (fun x ts ih h => ?_) t
  have h := okT_iff.1 h
  refine okS_iff.2 ⟨h.node, ?_, fun u hu => ih u hu (h.kids u hu)⟩
  rw [manyF, ← h.ars, List.length_map]

/-! ### what the program checks: the end of the function that begins at a node -/
def feGo (g : List Nd3 → Int → Option Nat) : List Nd3 → List Int → Option Nat
  | _, [] => some 0
  | l, a :: q => match g l a with
    | none => none
    | some p => (feGo g (l.drop p) q).map (p + ·)
def feE : Nat → List Nd3 → Int → Option Nat
  | 0, _, _ => none
  | _ + 1, [], _ => none
  | N + 1, x :: l, a => if (0 ≤ a ∧ x.2.1 ≠ a) ∨ nodeF x = false then none else (feGo (feE N) l (folF x)).map (· + 1)
theorem folF_nn {x : Nd3} (h : nodeF x = true) : ∀ a ∈ folF x, 0 ≤ a := by
  obtain ⟨k, a, i⟩ := x
  unfold nodeF at h
  unfold folF
  simp only at h ⊢
  intro b hb
  by_cases h3 : k = 3
  · subst h3
    simp at h
    have h1 := inB_t h.1; have h2 := inB_t h.2
    simp at hb
    omega
  rw [if_neg h3] at hb
  by_cases h4 : k = 4
  · subst h4
    simp at h
    have h1 := inB_t h.1
    simp at hb
    omega
  rw [if_neg h4] at hb
  by_cases h5 : k = 5
  · subst h5
    simp at h
    have h1 := inB_t h.1
    simp at hb
    omega
  rw [if_neg h5] at hb
  cases hb
theorem feGo_tree {g : List Nd3 → Int → Option Nat} (hg : ∀ l a p, g l a = some p → ∃ t r, okT t = true ∧ (a < 0 ∨ ar t = a) ∧ (flat t).length = p ∧ l = flat t ++ r) :
    ∀ {q : List Int} {l : List Nd3} {p : Nat}, (∀ a ∈ q, 0 ≤ a) → feGo g l q = some p → ∃ ts r, (∀ t ∈ ts, okT t = true) ∧ ts.map ar = q ∧ (flats ts).length = p ∧ l = flats ts ++ r
  | [], l, p, _, h => by
    rw [feGo] at h
    injection h with h
    exact ⟨[], l, (fun t ht => by cases ht), rfl, by rw [flats_nil]; exact h, by rw [flats_nil]; rfl⟩
  | a :: q, l, p, hq, h => by
    rw [feGo] at h
    cases h1 : g l a with
    | none => rw [h1] at h; cases h
    | some p1 =>
      rw [h1] at h
      obtain ⟨p2, h2, rfl⟩ := Option.map_eq_some_iff.1 h
      obtain ⟨t, r, e1, e2, e3, e4⟩ := hg _ _ _ h1
      rw [e4, List.drop_left' e3] at h2
      obtain ⟨ts, r2, f1, f2, f3, f4⟩ := feGo_tree hg (fun b hb => hq b (List.mem_cons_of_mem _ hb)) h2
      have ha := hq a (by simp)
      refine ⟨t :: ts, r2, fun u hu => ?_, ?_, ?_, ?_⟩
      · rcases List.mem_cons.1 hu with rfl | hu
        · exact e1
        · exact f1 u hu
      · rw [List.map_cons, f2, e2.resolve_left (by omega)]
      · rw [flats_cons, List.length_append]; omega
      · rw [e4, f4, flats_cons, List.append_assoc]
theorem feE_tree : ∀ (N : Nat) (l : List Nd3) (a : Int) (p : Nat), feE N l a = some p → ∃ t r, okT t = true ∧ (a < 0 ∨ ar t = a) ∧ (flat t).length = p ∧ l = flat t ++ r
  | 0, l, a, p, h => by rw [feE] at h; cases h
  | N + 1, [], a, p, h => by rw [feE] at h; cases h
  | N + 1, x :: l, a, p, h => by
    rw [feE] at h
    split at h
    · cases h
    · rename_i hc
      obtain ⟨p1, h1, rfl⟩ := Option.map_eq_some_iff.1 h
      have hn : nodeF x = true := by cases hq : nodeF x; exact absurd (.inr hq) hc; rfl
      obtain ⟨ts, r, f1, f2, f3, f4⟩ := feGo_tree (feE_tree N) (folF_nn hn) h1
      refine ⟨mk x ts, r, okT_iff.2 ⟨hn, f2, f1⟩, ?_, ?_, ?_⟩
      · by_cases h0 : a < 0
        · exact .inl h0
        · exact .inr (Classical.byContradiction fun e => hc (.inl ⟨by omega, e⟩))
      · rw [flat_mk, List.length_cons]; omega
      · rw [f4, flat_mk]; rfl
theorem tree_feGo {g : List Nd3 → Int → Option Nat} : ∀ {ts : List FTr} (r : List Nd3), (∀ t ∈ ts, ∀ r, g (flat t ++ r) (ar t) = some (flat t).length) → feGo g (flats ts ++ r) (ts.map ar) = some (flats ts).length
  | [], r, _ => by rw [flats_nil]; rfl
  | t :: ts, r, h => by
    rw [flats_cons, List.append_assoc, List.map_cons, feGo, h t (by simp)]
    simp only
    rw [List.drop_left, tree_feGo r fun u hu => h u (List.mem_cons_of_mem _ hu), List.length_append]; rfl
theorem tree_feE (t : FTr) : ∀ (N : Nat) (a : Int) (r : List Nd3), okT t = true → (a < 0 ∨ ar t = a) → (flat t).length ≤ N → feE N (flat t ++ r) a = some (flat t).length := by
  refine FTr.ind (P := fun t => ∀ (N : Nat) (a : Int) (r : List Nd3), okT t = true → (a < 0 ∨ ar t = a) → (flat t).length ≤ N → feE N (flat t ++ r) a = some (flat t).length) (fun x ts ih N a r h ha hN => ?_) t
  have h := okT_iff.1 h
  rw [flat_mk, List.length_cons] at hN
  obtain ⟨N, rfl⟩ : ∃ M, N = M + 1 := ⟨N - 1, by omega⟩
  have ha : a < 0 ∨ x.2.1 = a := ha
  rw [flat_mk, List.cons_append, feE, if_neg (by rintro (⟨h0, h1⟩ | h1); · exact h1 (ha.resolve_left (by omega))
                                                 · rw [h.node] at h1; cases h1), ← h.ars, tree_feGo r fun u hu r => ih u hu N (ar u) r (h.kids u hu) (.inr rfl) (by have := flats_mem hu; omega), List.length_cons]
  rfl
/-- a list that is one valid function -/
def IsF (f : List Nd3) : Prop := ∃ t, okT t = true ∧ f = flat t
def validF (f : List Nd3) : Bool := inB f.length 1 60 && decide (feE f.length f (-1) = some f.length)
theorem validF_iff {f : List Nd3} : validF f = true ↔ f.length ≤ 60 ∧ IsF f := by
  rw [validF, Bool.and_eq_true, decide_eq_true_eq]
  constructor
  · rintro ⟨h1, h2⟩
    have h1 := inB_t h1
    obtain ⟨t, r, e1, _, e3, e4⟩ := feE_tree _ _ _ _ h2
    have hr : r = [] := by
      have h5 := congrArg List.length e4
      rw [List.length_append] at h5
      exact List.length_eq_zero_iff.1 (by omega)
    subst hr
    exact ⟨by omega, t, e1, by rw [e4, List.append_nil]⟩
  · rintro ⟨h1, t, h2, rfl⟩
    have := flat_pos t
    have h3 := tree_feE t (flat t).length (-1) [] h2 (.inl (by omega)) (Nat.le_refl _)
    rw [List.append_nil] at h3
    exact ⟨inB_of (by omega) (by omega), h3⟩

/-! ### what the reference checks: nodes and shape, then the arities at each node -/
def nsE : List Nd3 → Nat → Option Nat
  | _, 0 => some 0
  | [], _ + 1 => none
  | x :: l, n + 1 => if nodeF x = true then (nsE l (n + manyF x)).map (· + 1) else none
theorem nsE_zero (l : List Nd3) : nsE l 0 = some 0 := by cases l <;> rfl
theorem nsE_tree : ∀ {l : List Nd3} {n p : Nat}, nsE l n = some p → ∃ ts r, ts.length = n ∧ (∀ t ∈ ts, okS t = true) ∧ (flats ts).length = p ∧ l = flats ts ++ r
  | l, 0, p, h => by
    rw [nsE_zero] at h; injection h with h
    exact ⟨[], l, rfl, (fun t ht => by cases ht), by rw [flats_nil]; exact h, by rw [flats_nil]; rfl⟩
  | [], n + 1, p, h => by cases h
  | x :: l, n + 1, p, h => by
    rw [nsE] at h
    split at h
    · rename_i hn
      obtain ⟨q, hq, rfl⟩ := Option.map_eq_some_iff.1 h
      obtain ⟨ts, r, h1, h2, h3, h4⟩ := nsE_tree hq
      have e : ts = ts.take (manyF x) ++ ts.drop (manyF x) := (List.take_append_drop _ _).symm
      refine ⟨mk x (ts.take (manyF x)) :: ts.drop (manyF x), r, ?_, fun u hu => ?_, ?_, ?_⟩
      · rw [List.length_cons, List.length_drop]; omega
      · rcases List.mem_cons.1 hu with rfl | hu
        · exact okS_iff.2 ⟨hn, by rw [List.length_take]; omega, fun v hv => h2 v (List.mem_of_mem_take hv)⟩
        · exact h2 u (List.mem_of_mem_drop hu)
      · rw [flats_cons, flat_mk, List.cons_append, ← flats_app, ← e, List.length_cons, h3]
      · rw [flats_cons, flat_mk, List.cons_append, ← flats_app, ← e, h4]; rfl
    · cases h
theorem tree_nsE : ∀ (n : Nat) (ts : List FTr) (r : List Nd3), (flats ts).length ≤ n → (∀ t ∈ ts, okS t = true) → nsE (flats ts ++ r) ts.length = some (flats ts).length
  | n, [], r, _, _ => by rw [flats_nil]; exact nsE_zero _
  | 0, t :: ts, r, h, _ => by rw [flats_cons, List.length_append] at h; have := flat_pos t; omega
  | n + 1, mk x ks :: ts, r, h, ho => by
    obtain ⟨h1, h2, h3⟩ := okS_iff.1 (ho (mk x ks) (by simp))
    have e : flats (mk x ks :: ts) = x :: flats (ks ++ ts) := by rw [flats_cons, flat_mk, flats_app]; rfl
    rw [e, List.length_cons] at h
    have ih := tree_nsE n (ks ++ ts) r (by omega) (fun u hu => by
      rcases List.mem_append.1 hu with hu | hu
      · exact h3 u hu
      · exact ho u (List.mem_cons_of_mem _ hu))
    rw [List.length_append, h2, Nat.add_comm] at ih
    rw [e, List.cons_append, List.length_cons, nsE, if_pos h1, ih, List.length_cons]; rfl
mutual
/-- all functions within a function, in the order of their nodes -/
def subsT : FTr → List FTr
  | mk x ts => mk x ts :: subsTs ts
def subsTs : List FTr → List FTr
  | [] => []
  | t :: ts => subsT t ++ subsTs ts
end
theorem subsT_mk (x : Nd3) (ts : List FTr) : subsT (mk x ts) = mk x ts :: subsTs ts := by rw [subsT]
theorem subsTs_nil : subsTs [] = [] := by rw [subsTs]
theorem subsTs_cons (t : FTr) (ts : List FTr) : subsTs (t :: ts) = subsT t ++ subsTs ts := by rw [subsTs]
theorem subsTs_mem {s : FTr} : ∀ {ts : List FTr}, s ∈ subsTs ts ↔ ∃ t ∈ ts, s ∈ subsT t
  | [] => by simp [subsTs_nil]
  | t :: ts => by rw [subsTs_cons, List.mem_append, subsTs_mem]; simp
theorem subsT_len (t : FTr) : (subsT t).length = (flat t).length := by
  refine FTr.ind (P := fun t => (subsT t).length = (flat t).length) (fun x ts ih => ?_) t
  have hl : ∀ q : List FTr, (∀ t ∈ q, t ∈ ts) → (subsTs q).length = (flats q).length := by
    intro q
    induction q with
    | nil => intro _; rw [subsTs_nil, flats_nil]; rfl
    | cons t q ihq => intro h; rw [subsTs_cons, flats_cons, List.length_append, List.length_append, ih t (h t (by simp)), ihq fun u hu => h u (List.mem_cons_of_mem _ hu)]
  rw [subsT_mk, flat_mk, List.length_cons, List.length_cons, hl ts fun _ h => h]
theorem subsT_at (t : FTr) : ∀ (k : Nat) (s : FTr), (subsT t)[k]? = some s → ∃ r, (flat t).drop k = flat s ++ r := by
  refine FTr.ind (P := fun t => ∀ (k : Nat) (s : FTr), (subsT t)[k]? = some s → ∃ r, (flat t).drop k = flat s ++ r) (fun x ts ih k s h => ?_) t
  have hl : ∀ q : List FTr, (∀ t ∈ q, t ∈ ts) → ∀ k s, (subsTs q)[k]? = some s → ∃ r, (flats q).drop k = flat s ++ r := by
    intro q
    induction q with
    | nil => intro _ k s h; rw [subsTs_nil] at h; simp at h
    | cons t q ihq =>
      intro hq k s h
      rw [subsTs_cons] at h
      rw [flats_cons]
      rcases Nat.lt_or_ge k (flat t).length with hk | hk
      · rw [List.getElem?_append_left (by rw [subsT_len]; exact hk)] at h
        obtain ⟨r, hr⟩ := ih t (hq t (by simp)) k s h
        exact ⟨r ++ flats q, by rw [List.drop_append_of_le_length (by omega), hr, List.append_assoc]⟩
      · rw [List.getElem?_append_right (by rw [subsT_len]; exact hk), subsT_len] at h
        obtain ⟨r, hr⟩ := ihq (fun u hu => hq u (List.mem_cons_of_mem _ hu)) _ s h
        refine ⟨r, ?_⟩
        rw [List.drop_append, List.drop_eq_nil_of_le hk, List.nil_append, hr]
  cases k with
  | zero =>
    rw [subsT_mk] at h
    simp only [List.getElem?_cons_zero, Option.some.injEq] at h
    subst h
    exact ⟨[], by simp⟩
  | succ k =>
    rw [subsT_mk, List.getElem?_cons_succ] at h
    rw [flat_mk, List.drop_succ_cons]
    exact hl ts (fun _ h => h) k s h
def fitT (t : FTr) : Bool := decide (t.kids.map ar = folF t.node)
theorem okT_subs (t : FTr) : okT t = true ↔ okS t = true ∧ ∀ s ∈ subsT t, fitT s = true := by
  refine FTr.ind (P := fun t => okT t = true ↔ okS t = true ∧ ∀ s ∈ subsT t, fitT s = true) (fun x ts ih => ?_) t
  constructor
  · intro h
    refine ⟨okT_okS _ h, fun s hs => ?_⟩
    have h := okT_iff.1 h
    rw [subsT_mk] at hs
    rcases List.mem_cons.1 hs with rfl | hs
    · exact decide_eq_true h.ars
    · obtain ⟨u, hu, hs⟩ := subsTs_mem.1 hs
      exact ((ih u hu).1 (h.kids u hu)).2 s hs
  · rintro ⟨h1, h2⟩
    obtain ⟨n1, n2, n3⟩ := okS_iff.1 h1
    rw [subsT_mk] at h2
    refine okT_iff.2 ⟨n1, of_decide_eq_true (show decide (ts.map ar = folF x) = true from h2 (mk x ts) (by simp)), fun u hu => (ih u hu).2 ⟨n3 u hu, fun s hs => h2 s (List.mem_cons_of_mem _ (subsTs_mem.2 ⟨u, hu, hs⟩))⟩⟩
theorem okS_subs (t : FTr) : okS t = true → ∀ s ∈ subsT t, okS s = true := by
  refine FTr.ind (P := fun t => okS t = true → ∀ s ∈ subsT t, okS s = true) (fun x ts ih h s hs => ?_) t
  rw [subsT_mk] at hs
  rcases List.mem_cons.1 hs with rfl | hs
  · exact h
  · obtain ⟨u, hu, hs⟩ := subsTs_mem.1 hs
    exact ih u hu ((okS_iff.1 h).2.2 u hu) s hs
end Go.Proofs.YtnoapoaajidncaaDoor
