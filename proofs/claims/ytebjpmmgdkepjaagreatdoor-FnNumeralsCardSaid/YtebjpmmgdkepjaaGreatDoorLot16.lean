/-
  Parts of the proof, one behind the other: contracts of the functions that the law reaches, and plain laws.
-/
import Derived.Lib.Join
import Derived.Test.YtebjpmmgdkepjaaGreatDoorLot13
import Derived.Test.YtebjpmmgdkepjaaGreatDoorLot14
import Derived.Test.YtebjpmmgdkepjaaGreatDoorLot15
/-
  Texts, second part: lists of numerals in the reference (l01List, l06Digits, l03Text, l05Digits).
-/
namespace Go.Proofs.YtebjpmmgdkepjaaGreatDoor
open Go.RowKit

def i64s (xs : List Int) : Prop := ∀ x ∈ xs, -9223372036854775808 ≤ x ∧ x ≤ 9223372036854775807
theorem itoa_len {x : Int} (h : -9223372036854775808 ≤ x ∧ x ≤ 9223372036854775807) : (Lib.itoa x).length ≤ 21 := Lib.itoa_length_le x h.1 h.2
theorem join_at (sep : List UInt8) (L : List (List UInt8)) (k : Nat) (y : List UInt8) (h : L[k]? = some y) : Lib.join (L.take (k + 1)) sep = (if 0 < k then Lib.join (L.take k) sep ++ sep else []) ++ y := by
  cases L with
  | nil => simp at h
  | cons x r =>
    cases k with
    | zero => simp at h; subst h; simp [Lib.join_one]
    | succ k =>
      simp at h
      rw [if_pos (by omega), List.take_succ_cons, List.take_succ_cons, Lib.join_cons, Lib.join_cons, Lib.joinTail_take_succ sep r k y h]
      simp
theorem lens_le {b : Nat} : ∀ {L : List (List UInt8)}, (∀ y ∈ L, y.length ≤ b) → Lib.lens L ≤ b * L.length
  | [], _ => by simp [Lib.lens]
  | y :: r, h => by
    have h1 := h y (by simp)
    have h2 := lens_le (L := r) (fun z hz => h z (by simp [hz]))
    simp only [Lib.lens, List.map_cons, List.sum_cons, List.length_cons, Nat.mul_succ] at h2 ⊢
    omega
theorem join_len {b : Nat} (sep : List UInt8) {L : List (List UInt8)} (h : ∀ y ∈ L, y.length ≤ b) : (Lib.join L sep).length ≤ (sep.length + b) * L.length := by
  cases L with
  | nil => simp [Lib.join_nil]
  | cons x r =>
    rw [Lib.join_length]
    have h1 := lens_le h
    rw [Nat.add_mul]
    have h2 : sep.length * r.length ≤ sep.length * (x :: r).length := Nat.mul_le_mul_left _ (by simp)
    omega
/-- a list's text -/
def listT (xs : List Int) : List UInt8 := if xs = [] then [45] else Lib.join (xs.map Lib.itoa) [44]
theorem csv_len {sep : UInt8} {xs : List Int} (h : i64s xs) (k : Nat) : (Lib.join ((xs.map Lib.itoa).take k) [sep]).length ≤ 22 * k := by
  have h1 := join_len [sep] (L := (xs.map Lib.itoa).take k) (b := 21) (fun y hy => by
    obtain ⟨x, hx, rfl⟩ := List.mem_map.1 (List.mem_of_mem_take hy)
    exact itoa_len (h x hx))
  have h2 : ((xs.map Lib.itoa).take k).length ≤ k := by rw [List.length_take]; omega
  have h3 := Nat.mul_le_mul_left ([sep].length + 21) h2
  simp only [List.length_cons, List.length_nil] at h1 h3
  omega
/-- a list of digits as a text -/
def digT (xs : List Int) : List UInt8 := xs.map fun x => UInt8.ofNat (48 + x.toNat)
def wordT (xs : List Int) : List UInt8 := if xs = [] then [45] else digT xs
def dgs (xs : List Int) : Prop := ∀ x ∈ xs, 0 ≤ x ∧ x ≤ 9
theorem itoa_dig {x : Int} (h : 0 ≤ x ∧ x ≤ 9) : Lib.itoa x = [UInt8.ofNat (48 + x.toNat)] := by
  rw [Lib.itoa, if_neg (by omega), Lib.decDigits, dif_pos (by omega)]
theorem digT_at {xs : List Int} {k : Nat} {x : Int} (h : xs[k]? = some x) : digT (xs.take (k + 1)) = digT (xs.take k) ++ [UInt8.ofNat (48 + x.toNat)] := by
  rw [List.take_add_one, h]; simp [digT]
theorem digT_len (xs : List Int) : (digT xs).length = xs.length := by simp [digT]
theorem digT_text {xs : List Int} (h : dgs xs) : strOfNums (xs.map (48 + ·)) = bs (digT xs) := by
  unfold strOfNums bs digT
  rw [List.map_map]
  congr 2
  apply List.map_congr_left
  intro x hx
  have h1 := h x hx
  simp only [Function.comp]
  congr 1
  omega
end Go.Proofs.YtebjpmmgdkepjaaGreatDoor
/-
  Texts of recursive functions in plain Lean, and both readers: what they give, and that they give back a function from its text. Nothing of the program.
-/
namespace Go.Proofs.YtebjpmmgdkepjaaGreatDoor
open Go.RowKit
open FTr

/-! ### texts -/
def shapeX (x : Nd3) (L : List (List UInt8)) : List UInt8 :=
  if x.1 = 0 then 90 :: Lib.itoa x.2.1 else if x.1 = 1 then [83] else if x.1 = 2 then 80 :: (Lib.itoa x.2.1 ++ 46 :: Lib.itoa x.2.2)
  else if x.1 = 3 then 67 :: 40 :: (L.getD 0 [] ++ 59 :: (Lib.join (L.drop 1) [44] ++ [41]))
  else if x.1 = 4 then 82 :: 40 :: (L.getD 0 [] ++ 59 :: (L.getD 1 [] ++ [41]))
  else 77 :: 40 :: (L.getD 0 [] ++ [41])
mutual
def textT : FTr → List UInt8
  | mk x ts => shapeX x (textsT ts)
def textsT : List FTr → List (List UInt8)
  | [] => []
  | t :: ts => textT t :: textsT ts
end
theorem textT_mk (x : Nd3) (ts : List FTr) : textT (mk x ts) = shapeX x (ts.map textT) := by
  have h : ∀ q : List FTr, textsT q = q.map textT := by
    intro q
    induction q with
    | nil => rw [textsT]; rfl
    | cons t q ih => rw [textsT, ih]; rfl
  rw [textT, h]
theorem join_cons44 (y : List UInt8) (ys : List (List UInt8)) : Lib.join (y :: ys) [44] = y ++ (if ys = [] then [] else 44 :: Lib.join ys [44]) := by
  cases ys with
  | nil => simp [Lib.join_one]
  | cons z zs => rw [if_neg (by simp), Lib.join_cons, Lib.join_cons]; simp [Lib.joinTail]
/-- a valid function's kinds -/
inductive Kind (x : Nd3) (ts : List FTr) : Prop where
  | zero (h : x.1 = 0) (ha : 0 ≤ x.2.1 ∧ x.2.1 ≤ 4) (hi : x.2.2 = 0) (ht : ts = [])
  | next (h : x.1 = 1) (ha : x.2.1 = 1) (hi : x.2.2 = 0) (ht : ts = [])
  | pick (h : x.1 = 2) (ha : 1 ≤ x.2.1 ∧ x.2.1 ≤ 4) (hi : 0 ≤ x.2.2 ∧ x.2.2 ≤ x.2.1 - 1) (ht : ts = [])
  | comp (h : x.1 = 3) (ha : 0 ≤ x.2.1 ∧ x.2.1 ≤ 4) (hi : 1 ≤ x.2.2 ∧ x.2.2 ≤ 4) (t : FTr) (u : FTr) (us : List FTr) (ht : ts = t :: u :: us) (h0 : ar t = x.2.2) (hl : (us.length : Int) + 1 = x.2.2) (hu : ∀ v ∈ u :: us, ar v = x.2.1)
  | rep (h : x.1 = 4) (ha : 1 ≤ x.2.1 ∧ x.2.1 ≤ 3) (hi : x.2.2 = 0) (t u : FTr) (ht : ts = [t, u]) (h0 : ar t = x.2.1 - 1) (h1 : ar u = x.2.1 + 1)
  | least (h : x.1 = 5) (ha : 0 ≤ x.2.1 ∧ x.2.1 ≤ 3) (hi : x.2.2 = 0) (t : FTr) (ht : ts = [t]) (h0 : ar t = x.2.1 + 1)
theorem OkT.kind {x : Nd3} {ts : List FTr} (h : OkT x ts) : Kind x ts := by
  obtain ⟨k, a, i⟩ := x
  have hn := h.node; have ha := h.ars
  unfold nodeF at hn
  unfold folF at ha
  simp only at hn ha
  by_cases h0 : k = 0
  · subst h0
    simp at hn ha
    have h1 := inB_t hn.1
    exact .zero rfl (by simp only; omega) hn.2 ha
  by_cases h1 : k = 1
  · subst h1
    simp at hn ha
    exact .next rfl hn.1 hn.2 ha
  by_cases h2 : k = 2
  · subst h2
    simp at hn ha
    have h1 := inB_t hn.1; have h2 := inB_t hn.2
    exact .pick rfl (by simp only; omega) (by simp only; omega) ha
  by_cases h3 : k = 3
  · subst h3
    simp at hn
    have h1 := inB_t hn.1; have h2 := inB_t hn.2
    rw [if_pos rfl] at ha
    obtain ⟨m, hm⟩ : ∃ m : Nat, i.toNat = m + 1 := ⟨i.toNat - 1, by omega⟩
    rw [hm] at ha
    match ts, ha with
    | t :: u :: us, ha =>
      simp only [List.map_cons, List.replicate_succ, List.cons.injEq] at ha
      obtain ⟨e1, e2, e3⟩ := ha
      have hl : us.length = m := by have := congrArg List.length e3; simpa using this
      refine .comp rfl (by simp only; omega) (by simp only; omega) t u us rfl e1 (by simp only; omega) fun v hv => ?_
      rcases List.mem_cons.1 hv with rfl | hv
      · exact e2
      · have : ar v ∈ us.map ar := List.mem_map_of_mem hv
        rw [e3] at this
        exact (List.mem_replicate.1 this).2
    | [], ha => simp at ha
    | [_], ha => simp [List.replicate_succ] at ha
  by_cases h4 : k = 4
  · subst h4
    simp at hn
    have h1 := inB_t hn.1
    rw [if_neg (by decide), if_pos rfl] at ha
    match ts, ha with
    | [t, u], ha =>
      simp only [List.map_cons, List.map_nil, List.cons.injEq, and_true] at ha
      exact .rep rfl (by simp only; omega) hn.2 t u rfl ha.1 ha.2
    | [], ha => simp at ha
    | [_], ha => simp at ha
    | _ :: _ :: _ :: _, ha => simp at ha
  by_cases h5 : k = 5
  · subst h5
    simp at hn
    have h1 := inB_t hn.1
    rw [if_neg (by decide), if_neg (by decide), if_pos rfl] at ha
    match ts, ha with
    | [t], ha =>
      simp only [List.map_cons, List.map_nil, List.cons.injEq, and_true] at ha
      exact .least rfl (by simp only; omega) hn.2 t rfl ha
    | [], ha => simp at ha
    | _ :: _ :: _, ha => simp at ha
  · rw [if_neg h0, if_neg h1, if_neg h2, if_neg h3, if_neg h4, if_neg h5] at hn; cases hn
theorem shape_zero {x : Nd3} {L : List (List UInt8)} (h : x.1 = 0) : shapeX x L = 90 :: Lib.itoa x.2.1 := by rw [shapeX, if_pos h]
theorem shape_next {x : Nd3} {L : List (List UInt8)} (h : x.1 = 1) : shapeX x L = [83] := by rw [shapeX, if_neg (by omega), if_pos h]
theorem shape_pick {x : Nd3} {L : List (List UInt8)} (h : x.1 = 2) : shapeX x L = 80 :: (Lib.itoa x.2.1 ++ 46 :: Lib.itoa x.2.2) := by rw [shapeX, if_neg (by omega), if_neg (by omega), if_pos h]
theorem shape_comp {x : Nd3} {L : List (List UInt8)} (h : x.1 = 3) : shapeX x L = 67 :: 40 :: (L.getD 0 [] ++ 59 :: (Lib.join (L.drop 1) [44] ++ [41])) := by rw [shapeX, if_neg (by omega), if_neg (by omega), if_neg (by omega), if_pos h]
theorem shape_rep {x : Nd3} {L : List (List UInt8)} (h : x.1 = 4) : shapeX x L = 82 :: 40 :: (L.getD 0 [] ++ 59 :: (L.getD 1 [] ++ [41])) := by rw [shapeX, if_neg (by omega), if_neg (by omega), if_neg (by omega), if_neg (by omega), if_pos h]
theorem shape_least {x : Nd3} {L : List (List UInt8)} (h : x.1 = 5) : shapeX x L = 77 :: 40 :: (L.getD 0 [] ++ [41]) := by rw [shapeX, if_neg (by omega), if_neg (by omega), if_neg (by omega), if_neg (by omega), if_neg (by omega)]
theorem itoa_byte' {v : Int} (h : 0 ≤ v ∧ v ≤ 9) : ∃ c : UInt8, Lib.itoa v = [c] ∧ (c.toNat : Int) = 48 + v := by
  refine ⟨_, itoa_dig h, ?_⟩
  rw [UInt8.toNat_ofNat']; omega
theorem joins_len : ∀ L : List (List UInt8), (Lib.join L [44]).length + 1 ≤ Lib.lens L + L.length + 1
  | [] => by simp [Lib.join_nil, Lib.lens]
  | y :: l => by rw [Lib.join_length]; simp [Lib.lens]; omega
theorem textT_len (t : FTr) : okT t = true → (textT t).length + 1 ≤ 6 * (flat t).length := by
  refine FTr.ind (P := fun t => okT t = true → (textT t).length + 1 ≤ 6 * (flat t).length) (fun x ts ih h => ?_) t
  have h := okT_iff.1 h
  have hk := h.kids
  have all : ∀ q : List FTr, (∀ t ∈ q, t ∈ ts) → Lib.lens (q.map textT) + q.length ≤ 6 * (flats q).length := by
    intro q
    induction q with
    | nil => intro _; simp [Lib.lens]
    | cons t q ihq =>
      intro hq
      have h1 := ih t (hq t (by simp)) (hk t (hq t (by simp)))
      have h2 := ihq fun u hu => hq u (List.mem_cons_of_mem _ hu)
      rw [flats_cons, List.length_append, List.map_cons, List.length_cons]
      simp only [Lib.lens, List.map_cons, List.sum_cons] at h2 ⊢
      omega
  have hall := all ts fun _ h => h
  rw [textT_mk, flat_mk, List.length_cons]
  cases h.kind with
  | zero h0 ha hi ht =>
    obtain ⟨c, hc, _⟩ := itoa_byte' (v := x.2.1) (by omega)
    rw [shape_zero h0, hc]; simp; omega
  | next h0 ha hi ht => rw [shape_next h0]; simp; omega
  | pick h0 ha hi ht =>
    obtain ⟨c, hc, _⟩ := itoa_byte' (v := x.2.1) (by omega)
    obtain ⟨d, hd, _⟩ := itoa_byte' (v := x.2.2) (by omega)
    rw [shape_pick h0, hc, hd]; simp; omega
  | comp h0 ha hi t u us ht h1 hl hu =>
    subst ht
    rw [shape_comp h0]
    have h2 := joins_len ((u :: us).map textT)
    simp only [List.map_cons, List.getD_cons_zero, List.drop_succ_cons, List.drop_zero, Lib.lens, List.sum_cons, List.length_cons, List.length_append, List.length_map, List.length_nil] at hall h2 ⊢
    omega
  | rep h0 ha hi t u ht h1 h2 =>
    subst ht
    rw [shape_rep h0]
    simp only [List.map_cons, List.map_nil, List.getD_cons_zero, List.getD_cons_succ, Lib.lens, List.sum_cons, List.sum_nil, List.length_cons, List.length_append, List.length_nil] at hall ⊢
    omega
  | least h0 ha hi t ht h1 =>
    subst ht
    rw [shape_least h0]
    simp only [List.map_cons, List.map_nil, List.getD_cons_zero, Lib.lens, List.sum_cons, List.sum_nil, List.length_cons, List.length_append, List.length_nil] at hall ⊢
    omega
theorem flat_inj (t : FTr) : ∀ (u : FTr) (r r' : List Nd3), okS t = true → okS u = true → flat t ++ r = flat u ++ r' → t = u ∧ r = r' := by
  refine FTr.ind (P := fun t => ∀ (u : FTr) (r r' : List Nd3), okS t = true → okS u = true → flat t ++ r = flat u ++ r' → t = u ∧ r = r') (fun x ts ih u r r' h h' e => ?_) t
  obtain ⟨y, us⟩ := u
  obtain ⟨_, a1, a2⟩ := okS_iff.1 h; obtain ⟨_, b1, b2⟩ := okS_iff.1 h'
  rw [flat_mk, flat_mk, List.cons_append, List.cons_append] at e
  injection e with e1 e2
  subst e1
  have all : ∀ (q p : List FTr), (∀ t ∈ q, t ∈ ts) → (∀ t ∈ p, t ∈ us) → q.length = p.length → ∀ r r', flats q ++ r = flats p ++ r' → q = p ∧ r = r' := by
    intro q
    induction q with
    | nil =>
      intro p _ _ hl r r' e
      have hp : p = [] := List.length_eq_zero_iff.1 hl.symm
      subst hp
      rw [flats_nil] at e
      exact ⟨rfl, e⟩
    | cons t q ihq =>
      intro p hq hp hl r r' e
      cases p with
      | nil => simp at hl
      | cons v p =>
        rw [flats_cons, flats_cons, List.append_assoc, List.append_assoc] at e
        obtain ⟨rfl, e2⟩ := ih t (hq t (by simp)) v _ _ (a2 t (hq t (by simp))) (b2 v (hp v (by simp))) e
        obtain ⟨rfl, e3⟩ := ihq p (fun u hu => hq u (List.mem_cons_of_mem _ hu)) (fun u hu => hp u (List.mem_cons_of_mem _ hu)) (by simpa using hl) r r' e2
        exact ⟨rfl, e3⟩
  obtain ⟨rfl, e3⟩ := all ts us (fun _ h => h) (fun _ h => h) (by omega) r r' e2
  exact ⟨rfl, e3⟩

/-- the text of a function that is a list of nodes -/
noncomputable def treeF (f : List Nd3) : FTr := by classical exact if h : IsF f then h.choose else mk (0, 0, 0) []
theorem treeF_flat {t : FTr} (h : okT t = true) : treeF (flat t) = t := by
  have hI : IsF (flat t) := ⟨t, h, rfl⟩
  have hs := hI.choose_spec
  have e : treeF (flat t) = hI.choose := by unfold treeF; rw [dif_pos hI]
  rw [e]
  have := flat_inj t hI.choose [] [] (okT_okS _ h) (okT_okS _ hs.1) (by rw [List.append_nil, List.append_nil]; exact hs.2)
  exact this.1.symm
noncomputable def txF (f : List Nd3) : List UInt8 := if validF f = true then textT (treeF f) else []
theorem txF_flat {t : FTr} (h : okT t = true) (hl : (flat t).length ≤ 60) : txF (flat t) = textT t := by
  rw [txF, if_pos (validF_iff.2 ⟨hl, t, h, rfl⟩), treeF_flat h]
theorem txF_bad {f : List Nd3} (h : validF f = false) : txF f = [] := by rw [txF, h]; rfl
theorem textT_ne (t : FTr) : textT t ≠ [] := by
  obtain ⟨x, ts⟩ := t
  rw [textT_mk, shapeX]
  repeat' split
  all_goals simp

/-! ### the reference's reader -/
abbrev RdF := List Nd3 × Nat × Bool
def hdA : List Nd3 → Int
  | [] => 0
  | x :: _ => x.2.1
theorem hdA_flat (t : FTr) (r : List Nd3) : hdA (flat t ++ r) = ar t := by obtain ⟨x, ts⟩ := t; rw [flat_mk]; rfl
def dgS (s : List UInt8) (k : Nat) : Int := match s[k]? with
  | none => -1
  | some c => if 48 ≤ c.toNat ∧ c.toNat ≤ 57 then (c.toNat : Int) - 48 else -1
def byS (s : List UInt8) (k : Nat) (b : UInt8) : Bool := decide (s[k]? = some b)
/-- the loop over what follows a semicolon -/
def pzL (s : List UInt8) (g : Nat → RdF) (isR : Bool) : Nat → List Nd3 → Nat → Nat → Option (List Nd3 × Int × Nat × Nat)
  | 0, _, _, _ => none
  | F + 1, all, many, next => if (g (next + 1)).2.2 = false ∨ 60 < all.length + (g (next + 1)).1.length then none
      else if byS s (g (next + 1)).2.1 44 = false ∨ isR = true then some (all ++ (g (next + 1)).1, hdA (g (next + 1)).1, many + 1, (g (next + 1)).2.1)
      else pzL s g isR F (all ++ (g (next + 1)).1) (many + 1) (g (next + 1)).2.1
def pzH (s : List UInt8) (isR : Bool) (k : Nat) : Option (List Nd3 × Int × Nat × Nat) → RdF
  | none => ([], k, false)
  | some (all, a, many, nx) => if byS s nx 41 = true then ((if isR = true then ((4, a - 1, 0) : Nd3) else (3, a, (many : Int))) :: all, nx + 1, true) else ([], k, false)
def pzT (s : List UInt8) (g : Nat → RdF) (k : Nat) (isR : Bool) : RdF :=
  if byS s (k + 1) 40 = true then (if (g (k + 2)).2.2 = true ∧ byS s (g (k + 2)).2.1 59 = true then pzH s isR k (pzL s g isR 61 (g (k + 2)).1 0 (g (k + 2)).2.1) else ([], k, false)) else ([], k, false)
def pzM (s : List UInt8) (g : Nat → RdF) (k : Nat) : RdF :=
  if byS s (k + 1) 40 = true then (if (g (k + 2)).2.2 = true ∧ byS s (g (k + 2)).2.1 41 = true then ((5, hdA (g (k + 2)).1 - 1, 0) :: (g (k + 2)).1, (g (k + 2)).2.1 + 1, true) else ([], k, false)) else ([], k, false)
def pzE (s : List UInt8) : Nat → Nat → RdF
  | 0, k => ([], k, false)
  | d + 1, k => match s[k]? with
    | none => ([], k, false)
    | some c => if c = 90 then ([(0, dgS s (k + 1), 0)], k + 2, decide (0 ≤ dgS s (k + 1)))
      else if c = 83 then ([(1, 1, 0)], k + 1, true)
      else if c = 80 then ([(2, dgS s (k + 1), dgS s (k + 3))], k + 4, decide (0 ≤ dgS s (k + 1)) && (decide (0 ≤ dgS s (k + 3)) && byS s (k + 2) 46))
      else if c = 77 then pzM s (pzE s d) k
      else if c = 82 then pzT s (pzE s d) k true
      else if c = 67 then pzT s (pzE s d) k false
      else ([], k, false)
theorem pzE_none {s : List UInt8} {d k : Nat} (h : s[k]? = none ∨ d = 0) : pzE s d k = ([], k, false) := by
  cases d with
  | zero => rfl
  | succ d => rw [pzE, h.resolve_right (by omega)]
theorem pzE_some {s : List UInt8} {d k : Nat} {c : UInt8} (h : s[k]? = some c) : pzE s (d + 1) k = (if c = 90 then ([(0, dgS s (k + 1), 0)], k + 2, decide (0 ≤ dgS s (k + 1)))
      else if c = 83 then ([(1, 1, 0)], k + 1, true)
      else if c = 80 then ([(2, dgS s (k + 1), dgS s (k + 3))], k + 4, decide (0 ≤ dgS s (k + 1)) && (decide (0 ≤ dgS s (k + 3)) && byS s (k + 2) 46))
      else if c = 77 then pzM s (pzE s d) k
      else if c = 82 then pzT s (pzE s d) k true
      else if c = 67 then pzT s (pzE s d) k false
      else ([], k, false)) := by rw [pzE, h]
theorem dgS_some {s : List UInt8} {k : Nat} {c : UInt8} {v : Int} (h : s[k]? = some c) (hc : (c.toNat : Int) = 48 + v) (hv : 0 ≤ v ∧ v ≤ 9) : dgS s k = v := by
  rw [dgS, h]; simp only; rw [if_pos (by omega)]; omega
theorem byS_some {s : List UInt8} {k : Nat} {b : UInt8} (h : s[k]? = some b) : byS s k b = true := decide_eq_true h
theorem head_of {α : Type} {s t : List α} {k : Nat} {c : α} (h : s.drop k = c :: t) : s[k]? = some c ∧ s.drop (k + 1) = t := by
  have hk : k < s.length := by
    rcases Nat.lt_or_ge k s.length with hk | hk
    · exact hk
    · rw [List.drop_eq_nil_of_le hk] at h; cases h
  rw [List.drop_eq_getElem_cons hk] at h
  injection h with h1 h2
  exact ⟨by rw [List.getElem?_eq_getElem hk, h1], h2⟩
theorem drop_past {α : Type} {s a t : List α} {k : Nat} (h : s.drop k = a ++ t) : s.drop (k + a.length) = t := by rw [← List.drop_drop, h, List.drop_left]
/-- the loop reads the rest of a composition -/
theorem pzL_read {s : List UInt8} {g : Nat → RdF} : ∀ (us : List FTr) (u : FTr) (F : Nat) (all : List Nd3) (many next : Nat) (r : List UInt8), (∀ v ∈ u :: us, ∀ k t, s.drop k = textT v ++ t → g k = (flat v, k + (textT v).length, true)) →
    all.length + (flats (u :: us)).length ≤ 60 → 60 < all.length + F → s.drop (next + 1) = Lib.join ((u :: us).map textT) [44] ++ 41 :: r →
    ∃ a nx, pzL s g false F all many next = some (all ++ flats (u :: us), a, many + (us.length + 1), nx) ∧ (∀ b, (∀ v ∈ u :: us, ar v = b) → a = b) ∧ nx = next + 1 + (Lib.join ((u :: us).map textT) [44]).length
  | [], u, F, all, many, next, r, hg, hl, hF, hs => by
    rw [flats_cons, flats_nil, List.append_nil] at hl
    have hp := flat_pos u
    obtain ⟨F, rfl⟩ : ∃ F', F = F' + 1 := ⟨F - 1, by omega⟩
    have ej : Lib.join ([u].map textT) [44] = textT u := by simp [Lib.join_one]
    rw [ej] at hs ⊢
    have h1 := hg u (by simp) _ _ hs
    have h2 := (head_of (drop_past hs)).1
    refine ⟨ar u, next + 1 + (textT u).length, ?_, fun b hb => hb u (by simp), rfl⟩
    rw [pzL, h1]
    simp only
    rw [if_neg (by rintro (h | h); · cases h
                   · omega), if_pos (.inl (decide_eq_false (by rw [h2]; decide))), flats_cons, flats_nil, List.append_nil]
    have := hdA_flat u []
    rw [List.append_nil] at this
    rw [this]; rfl
  | v :: us, u, F, all, many, next, r, hg, hl, hF, hs => by
    have hp := flat_pos u
    rw [flats_cons, List.length_append] at hl
    obtain ⟨F, rfl⟩ : ∃ F', F = F' + 1 := ⟨F - 1, by omega⟩
    have ej : Lib.join ((u :: v :: us).map textT) [44] = textT u ++ 44 :: Lib.join ((v :: us).map textT) [44] := by rw [List.map_cons, join_cons44, if_neg (by simp)]
    rw [ej, List.append_assoc, List.cons_append] at hs
    have h1 := hg u (by simp) _ _ hs
    obtain ⟨h2, h3⟩ := head_of (drop_past hs)
    obtain ⟨a, nx, e1, e2, e3⟩ := pzL_read us v F (all ++ flat u) (many + 1) (next + 1 + (textT u).length) r (fun w hw => hg w (List.mem_cons_of_mem _ hw)) (by rw [List.length_append]; omega) (by rw [List.length_append]; omega) h3
    refine ⟨a, nx, ?_, fun b hb => e2 b fun w hw => hb w (List.mem_cons_of_mem _ hw), ?_⟩
    · rw [pzL, h1]
      simp only
      rw [if_neg (by rintro (h | h); · cases h
                     · omega), if_neg (by rintro (h | h); · rw [byS_some h2] at h; cases h
                                          · cases h), e1, flats_cons u, List.append_assoc, List.length_cons]
      congr 4; omega
    · rw [e3, ej, List.length_append, List.length_cons]; omega
theorem pzE_read (s : List UInt8) (t : FTr) : ∀ (d k : Nat) (r : List UInt8), okT t = true → (flat t).length ≤ d → (flat t).length ≤ 60 → s.drop k = textT t ++ r → pzE s d k = (flat t, k + (textT t).length, true) := by
  refine FTr.ind (P := fun t => ∀ (d k : Nat) (r : List UInt8), okT t = true → (flat t).length ≤ d → (flat t).length ≤ 60 → s.drop k = textT t ++ r → pzE s d k = (flat t, k + (textT t).length, true)) (fun x ts ih d k r h hd h60 hs => ?_) t
  have h := okT_iff.1 h
  rw [flat_mk, List.length_cons] at hd h60
  obtain ⟨d, rfl⟩ : ∃ d', d = d' + 1 := ⟨d - 1, by omega⟩
  rw [flat_mk, textT_mk] at *
  have ihs : ∀ v ∈ ts, ∀ k r, s.drop k = textT v ++ r → pzE s d k = (flat v, k + (textT v).length, true) := fun v hv k r hs => ih v hv d k r (h.kids v hv) (by have := flats_mem hv; omega) (by have := flats_mem hv; omega) hs
  obtain ⟨xk, xa, xi⟩ := x
  cases h.kind with
  | zero h0 ha hi ht =>
    simp only at h0 ha hi
    subst h0 hi ht
    obtain ⟨c, hc, hcv⟩ := itoa_byte' (v := xa) (by omega)
    rw [shape_zero rfl, hc] at hs ⊢
    obtain ⟨e1, e2⟩ := head_of (show s.drop k = 90 :: c :: r from hs)
    rw [pzE_some e1, if_pos rfl, dgS_some (head_of e2).1 hcv (by omega), decide_eq_true (by omega), flats_nil]; rfl
  | next h0 ha hi ht =>
    simp only at h0 ha hi
    subst h0 ha hi ht
    rw [shape_next rfl] at hs ⊢
    obtain ⟨e1, _⟩ := head_of (show s.drop k = 83 :: r from hs)
    rw [pzE_some e1, if_neg (by decide), if_pos rfl, flats_nil]; rfl
  | pick h0 ha hi ht =>
    simp only at h0 ha hi
    subst h0 ht
    obtain ⟨c, hc, hcv⟩ := itoa_byte' (v := xa) (by omega)
    obtain ⟨b, hb, hbv⟩ := itoa_byte' (v := xi) (by omega)
    rw [shape_pick rfl, hc, hb] at hs ⊢
    obtain ⟨e1, e2⟩ := head_of (show s.drop k = 80 :: c :: 46 :: b :: r from hs)
    obtain ⟨e3, e4⟩ := head_of e2
    obtain ⟨e5, e6⟩ := head_of e4
    rw [pzE_some e1, if_neg (by decide), if_neg (by decide), if_pos rfl, dgS_some e3 hcv (by omega), dgS_some (head_of e6).1 hbv (by omega), byS_some e5, decide_eq_true (by omega), decide_eq_true (by omega), flats_nil]; rfl
  | comp h0 ha hi t u us ht h1 hl hu =>
    simp only at h0 ha hi h1 hl hu
    subst h0 ht
    rw [shape_comp rfl] at hs ⊢
    simp only [List.map_cons, List.getD_cons_zero, List.drop_succ_cons, List.drop_zero] at hs ⊢
    have hs' : s.drop k = 67 :: 40 :: (textT t ++ 59 :: (Lib.join (textT u :: us.map textT) [44] ++ 41 :: r)) := by rw [hs]; simp
    obtain ⟨e1, e2⟩ := head_of hs'
    obtain ⟨e3, e4⟩ := head_of e2
    have g1 := ihs t (by simp) _ _ e4
    obtain ⟨e5, e6⟩ := head_of (drop_past e4)
    rw [flats_cons, List.length_append] at h60
    obtain ⟨a, nx, q1, q2, q3⟩ := pzL_read (g := pzE s d) us u 61 (flat t) 0 (k + 1 + 1 + (textT t).length) r (fun v hv => ihs v (List.mem_cons_of_mem _ hv)) (by omega) (by omega) e6
    have hj : s.drop (k + 1 + 1 + (textT t).length + 1 + (Lib.join ((u :: us).map textT) [44]).length) = 41 :: r := drop_past e6
    rw [pzE_some e1, if_neg (by decide), if_neg (by decide), if_neg (by decide), if_neg (by decide), if_neg (by decide), if_pos rfl, pzT, if_pos (byS_some e3), g1]
    simp only
    rw [if_pos ⟨trivial, byS_some e5⟩, q1, pzH, q3, if_pos (byS_some (head_of hj).1), if_neg (by simp), q2 xa hu, flats_cons t]
    simp only [List.length_cons, List.length_append, List.length_nil, Prod.mk.injEq, List.cons.injEq, true_and, and_true]
    refine ⟨by omega, ?_⟩
    simp only [List.map_cons]; omega
  | rep h0 ha hi t u ht h1 h2 =>
    simp only at h0 ha hi h1 h2
    subst h0 ht
    rw [shape_rep rfl] at hs ⊢
    simp only [List.map_cons, List.map_nil, List.getD_cons_zero, List.getD_cons_succ] at hs ⊢
    have hs' : s.drop k = 82 :: 40 :: (textT t ++ 59 :: (textT u ++ 41 :: r)) := by rw [hs]; simp
    obtain ⟨e1, e2⟩ := head_of hs'
    obtain ⟨e3, e4⟩ := head_of e2
    have g1 := ihs t (by simp) _ _ e4
    obtain ⟨e5, e6⟩ := head_of (drop_past e4)
    have g2 := ihs u (by simp) _ _ e6
    have hj := (head_of (drop_past e6)).1
    simp only [flats_cons, flats_nil, List.append_nil, List.length_append] at h60
    rw [pzE_some e1, if_neg (by decide), if_neg (by decide), if_neg (by decide), if_neg (by decide), if_pos rfl, pzT, if_pos (byS_some e3), g1]
    simp only
    rw [if_pos ⟨trivial, byS_some e5⟩, pzL, g2]
    simp only
    rw [if_neg (by rintro (h | h); · cases h
                   · omega), if_pos (.inr trivial), pzH, if_pos (byS_some hj), if_pos rfl]
    have := hdA_flat u []
    rw [List.append_nil] at this
    rw [this, h2, hi]
    simp only [flats_cons, flats_nil, List.append_nil, List.length_cons, List.length_append, List.length_nil, Prod.mk.injEq, List.cons.injEq, true_and, and_true]
    omega
  | least h0 ha hi t ht h1 =>
    simp only at h0 ha hi h1
    subst h0 ht
    rw [shape_least rfl] at hs ⊢
    simp only [List.map_cons, List.map_nil, List.getD_cons_zero] at hs ⊢
    have hs' : s.drop k = 77 :: 40 :: (textT t ++ 41 :: r) := by rw [hs]; simp
    obtain ⟨e1, e2⟩ := head_of hs'
    obtain ⟨e3, e4⟩ := head_of e2
    have g1 := ihs t (by simp) _ _ e4
    have hj := (head_of (drop_past e4)).1
    rw [pzE_some e1, if_neg (by decide), if_neg (by decide), if_neg (by decide), if_pos rfl, pzM, if_pos (byS_some e3), g1]
    simp only
    have := hdA_flat t []
    rw [List.append_nil] at this
    rw [if_pos ⟨trivial, byS_some hj⟩, this, h1, hi]
    simp only [flats_cons, flats_nil, List.append_nil, List.length_cons, List.length_append, List.length_nil, Prod.mk.injEq, List.cons.injEq, true_and, and_true]
    omega
end Go.Proofs.YtebjpmmgdkepjaaGreatDoor
/-
  Functions as lambda terms in plain Lean: the parts' terms as a list, the body by kinds, lengths. Nothing of the program.
-/
namespace Go.Proofs.YtebjpmmgdkepjaaGreatDoor
open Go.RowKit
open FTr

theorem trmsO_of : ∀ {ts : List FTr} {L : List LT}, ts.map trmO = L.map some → trmsO ts = some L
  | [], [], _ => trmsO_nil
  | [], _ :: _, h => by cases h
  | _ :: _, [], h => by cases h
  | t :: ts, u :: L, h => by
    rw [List.map_cons, List.map_cons] at h
    injection h with h1 h2
    rw [trmsO_yes h1, trmsO_of h2]; rfl
theorem trmsO_none : ∀ {ts : List FTr} {t : FTr}, t ∈ ts → trmO t = none → trmsO ts = none
  | u :: ts, t, h, hn => by
    rcases List.mem_cons.1 h with rfl | h
    · exact trmsO_no hn
    · cases hu : trmO u with
      | none => exact trmsO_no hu
      | some v => rw [trmsO_yes hu, trmsO_none h hn]; rfl
theorem part_len {ts : List FTr} {L : List LT} (h : ts.map trmO = L.map some) : ∀ p ∈ L, p.length ≤ 400 := fun p hp => by
  have h1 : some p ∈ L.map some := List.mem_map_of_mem hp
  rw [← h] at h1
  obtain ⟨t, _, ht⟩ := List.mem_map.1 h1
  exact (validL_end (trmO_valid ht)).2.2
theorem bod_zero {x : Nd3} {ps : List LT} (h : x.1 = 0) : bodLm x ps = numLm 0 := by rw [bodLm, if_pos h]
theorem bod_next {x : Nd3} {ps : List LT} (h : x.1 = 1) : bodLm x ps = appLm sucLm [varLm 0] := by rw [bodLm, if_neg (by omega), if_pos h]
theorem bod_pick {x : Nd3} {ps : List LT} (h : x.1 = 2) : bodLm x ps = varLm (x.2.1 - 1 - x.2.2) := by rw [bodLm, if_neg (by omega), if_neg (by omega), if_pos h]
theorem bod_comp {x : Nd3} {ps : List LT} (h : x.1 = 3) : bodLm x ps = appLm (ps.getD 0 []) (ps.tail.map fun p => appLm p (vsLm x.2.1.toNat 0 0)) := by rw [bodLm, if_neg (by omega), if_neg (by omega), if_neg (by omega), if_pos h]
theorem bod_rep {x : Nd3} {ps : List LT} (h : x.1 = 4) : bodLm x ps = appLm (varLm (x.2.1 - 1)) [stepLm x.2.1.toNat (ps.getD 1 []), falLm, numLm 0, appLm (ps.getD 0 []) (vsLm x.2.1.toNat 1 0)] := by rw [bodLm, if_neg (by omega), if_neg (by omega), if_neg (by omega), if_neg (by omega), if_pos h]
theorem bod_least {x : Nd3} {ps : List LT} (h : x.1 = 5) : bodLm x ps = appLm (loopLm x.2.1.toNat (ps.getD 0 [])) [loopLm x.2.1.toNat (ps.getD 0 []), numLm 0] := by rw [bodLm, if_neg (by omega), if_neg (by omega), if_neg (by omega), if_neg (by omega), if_neg (by omega)]
theorem vsLm_flat (n frm within : Nat) : (vsLm n frm within).flatten.length = n - frm := by
  have : ∀ (l : List Nat) (f : Nat → Int), ((l.map fun j => varLm (f j)).flatten).length = l.length := by
    intro l f
    induction l with
    | nil => rfl
    | cons x l ih => rw [List.map_cons, List.flatten_cons, List.length_append, ih, List.length_cons]; simp [varLm]; omega
  rw [vsLm, this, List.length_range]
theorem vsLm_len (n frm within : Nat) : (vsLm n frm within).length = n - frm := by rw [vsLm, List.length_map, List.length_range]
theorem varLm_len (i : Int) : (varLm i).length = 1 := rfl
theorem appVs_len (t : LT) (n frm within : Nat) : (appLm t (vsLm n frm within)).length = t.length + 2 * (n - frm) := by rw [appLm_len, vsLm_flat, vsLm_len]; omega
theorem app1_len (t a : LT) : (appLm t [a]).length = 1 + t.length + a.length := by rw [appLm_len]; simp
theorem app2_len (t a b : LT) : (appLm t [a, b]).length = 2 + t.length + a.length + b.length := by rw [appLm_len]; simp; omega
theorem app4_len (t a b c d : LT) : (appLm t [a, b, c, d]).length = 4 + t.length + a.length + b.length + c.length + d.length := by rw [appLm_len]; simp; omega
theorem stepLm_len (n : Nat) (p : LT) : (stepLm n p).length = 22 + p.length + 2 * (n - 1) := by
  rw [stepLm, absLm_len, app2_len, app1_len, appLm_len, List.length_append, List.flatten_append, List.length_append, vsLm_len, vsLm_flat]
  simp [varLm, sucLm]; omega
theorem loopLm_len (n : Nat) (p : LT) : (loopLm n p).length = 24 + p.length + 2 * n := by
  rw [loopLm, absLm_len, app2_len, absLm_len, app2_len, app1_len, appLm_len, List.length_cons, List.flatten_cons, List.length_append, vsLm_len, vsLm_flat]
  simp [varLm, sucLm]; omega
theorem getD_len {ps : List LT} (h : ∀ p ∈ ps, p.length ≤ 400) (k : Nat) : (ps.getD k []).length ≤ 400 := by
  rw [List.getD_eq_getElem?_getD]
  cases hk : ps[k]? with
  | none => simp
  | some p => simpa using h p (List.mem_of_getElem? hk)
theorem flat_bd {L : List LT} {b : Nat} (h : ∀ p ∈ L, p.length ≤ b) : L.flatten.length ≤ L.length * b := by
  induction L with
  | nil => simp
  | cons p l ih =>
    have h1 := ih fun q hq => h q (List.mem_cons_of_mem _ hq)
    have h2 := h p (by simp)
    rw [List.flatten_cons, List.length_append, List.length_cons, Nat.succ_mul]; omega
theorem args_bd {n : Nat} {L : List LT} (hn : n ≤ 4) (h : ∀ p ∈ L, p.length ≤ 400) : ((L.map fun p => appLm p (vsLm n 0 0)).flatten).length ≤ L.length * 408 := by
  have h1 := flat_bd (L := L.map fun p => appLm p (vsLm n 0 0)) (b := 408) fun q hq => by
    obtain ⟨p, hp, rfl⟩ := List.mem_map.1 hq
    rw [appVs_len]; have := h p hp; omega
  rwa [List.length_map] at h1
/-- no body is long -/
theorem bodLm_len {x : Nd3} {ps : List LT} (hx : nodeF x = true) (hl : ps.length ≤ 5) (hp : ∀ p ∈ ps, p.length ≤ 400) : (bodLm x ps).length ≤ 2900 := by
  obtain ⟨a0, a4, a2, a5⟩ := nodeF_ar hx
  have g0 := getD_len hp 0; have g1 := getD_len hp 1
  unfold bodLm
  split
  · decide
  · split
    · decide
    · split
      · rw [varLm_len]; omega
      · split
        · rw [appLm_len, List.length_map]
          have h1 := args_bd (n := x.2.1.toNat) (L := ps.tail) (by omega) (fun p h => hp p (List.mem_of_mem_tail h))
          rw [List.length_tail] at h1 ⊢
          have h2 : (ps.length - 1) * 408 ≤ 4 * 408 := Nat.mul_le_mul_right _ (by omega)
          omega
        · split
          · rw [app4_len, stepLm_len, appVs_len, numLm_len, varLm_len]
            have : falLm.length = 3 := rfl
            omega
          · rw [app2_len, loopLm_len, numLm_len]; omega
theorem outLm_len {x : Nd3} {ps : List LT} (hx : nodeF x = true) (hl : ps.length ≤ 5) (hp : ∀ p ∈ ps, p.length ≤ 400) : (outLm x ps).length ≤ 3000 := by
  have := bodLm_len hx hl hp
  obtain ⟨a0, a4, _, _⟩ := nodeF_ar hx
  rw [outLm, absLm_len]; omega
end Go.Proofs.YtebjpmmgdkepjaaGreatDoor
/-
  Functions as terms: the reference's lists of variables and applications.
-/
namespace Go.Proofs.YtebjpmmgdkepjaaGreatDoor
open Go.RowKit

theorem vsLm_at {n frm within k : Nat} (h : k < n - frm) : (vsLm n frm within)[k]? = some (varLm ((n : Int) - 1 - ((frm + k : Nat) : Int) + (within : Int))) := by
  rw [vsLm, List.getElem?_map, List.getElem?_range h]; rfl
theorem itLen {ps : List Tm} {m : Nat} {w : World} {G : Option Addr} (h : RdV w 2 G m (ps.map Tm.it)) : ps.length = m := by have := h.len; rw [List.length_map] at this; exact this
theorem LmS.drop_at {ps : List Tm} {j : Nat} {p : Tm} (h : ps[j]? = some p) : ((ps.take (j + 1)).map Tm.t).flatten = ((ps.take j).map Tm.t).flatten ++ p.t := by
  rw [take_at h, List.map_append, List.flatten_append]; simp
theorem flat_le {ps : List Tm} {j : Nat} : (((ps.take j).map Tm.t).flatten).length ≤ ((ps.map Tm.t).flatten).length := by
  have h : ((ps.map Tm.t).flatten).length = (((ps.take j).map Tm.t).flatten).length + (((ps.drop j).map Tm.t).flatten).length := by
    rw [← List.length_append, ← List.flatten_append, ← List.map_append, List.take_append_drop]
  omega
theorem info_sLam : (Tryz.prog.info? 25).map (fun i => (i.zero, i.size, i.bytes)) = some (some (.slice none 0 0), 1, 24) := by kernel_rfl
set_option maxHeartbeats 1000000 in
theorem l18Vars_c (frm n inner m : Nat) (w : World) (hn : n ≤ 100) (hf : frm ≤ n) (hi : inner ≤ 100) (hm : n - frm = m) : Calls Tryz.prog 121 #[.int .i64 frm, .int .i64 n, .int .i64 inner] w (LsOut (vsLm n frm inner) m w) := by
  go_enter Tryz.func121, Tryz.ntmps121
  go_wp2_with fail
  go_loopw [7, 8] (fun ov iv wr => ∃ (k i oc : Nat) (O : Option Addr) (ps : List Tm), k ≤ m ∧ i = frm + k ∧ iv = .int .i64 i ∧ ov = .slice O k oc ∧ Hid (LmS wr w.heap.size 25 O k oc ps) ∧ Hid (ps.map Tm.t = (vsLm n frm inner).take k) ∧ Below w.heap.size w wr) (fun _ iv _ => n - (intOf iv).toNat)
  case atStart => exact ⟨0, frm, 0, _, [], by omega, by omega, rfl, rfl, LmS.nil (Own.lit (Nat.le_refl _)), rfl, below_size.alloc (Nat.le_refl _) _⟩
  case round =>
    obtain ⟨k, i, oc, O, ps, hk, hik, rfl, rfl, hO, hp, hb⟩ := hrel
    have HB := Lib.hid hb; have HI := Lib.hid hik
    have hib : i ≤ n := by omega
    have hwz := hb.size
    clear hik
    by_cases hlt : i < n
    · obtain ⟨v, hv⟩ : ∃ v : Int, (n : Int) - 1 - (i : Int) + (inner : Int) = v := ⟨_, rfl⟩
      have HV := Lib.hid (show (vsLm n frm inner)[k]? = some (varLm v) by rw [vsLm_at (by have := HI.out; omega), ← hv, HI.out])
      have v0 : IntKind.i64.wrap ((n : Int) - 1) = (n : Int) - 1 := IntWalk.i64_in _ (by omega)
      have v1 : IntKind.i64.wrap ((n : Int) - 1 - (i : Int)) = (n : Int) - 1 - (i : Int) := IntWalk.i64_in _ (by omega)
      have v2 : IntKind.i64.wrap ((n : Int) - 1 - (i : Int) + (inner : Int)) = v := by rw [hv]; exact IntWalk.i64_in _ (by omega)
      clear hb hv
      go_wp2_with (first | (go_at_call 120; refine (l18Var_c v _).mono ?_; rintro e w2 ⟨A2, c2, rfl, hl2, hw2, hc2, hb2⟩; have W2 := Lib.hid hw2; have E2 := Lib.hid hb2; have z2 := hb2.size; clear hl2 hw2 hc2 hb2) | (at_builtin; refine wp_app1 (by rfl) _ _ 32 25 (.slice none 0 0) 24 (by rfl) Tryz.underlying32 info_sLam rfl w.heap.size O k oc (ps.map Tm.hd) (by rfl) (by exact (hO.out.own.keep E2.out).alloc _) w2.heap.size (.slice A2 1 c2) (by rfl) (by exact new_cell _ _ _ 0) rfl (by omega) (by omega) (by simp; omega) ?_; intro g' cap w3 own3 hb3 hk3 hg3 hz3; have L3 := Lib.hid (LmS.push hO.out hwz (w1 := w2.alloc (.cells #[.slice A2 1 c2] 25)) (p := ⟨A2, c2, varLm v⟩) (E2.out.alloc z2 _) ((W2.out.below (below_size.alloc (Nat.le_refl _) _)).wider (Nat.le_refl _) (by simp)) (by rw [List.map_append]; exact own3) hk3 hg3 hz3); have E3 := Lib.hid ((((HB.out.trans (E2.out.mono hwz)).alloc (by omega) _).trans hb3)); clear own3 hb3 hk3 hg3 hz3))
      go_roundw
      case rel => exact ⟨k + 1, i + 1, cap, some ⟨g', 0, none⟩, ps ++ [(⟨A2, c2, varLm v⟩ : Tm)], by have := HI.out; omega, by have := HI.out; omega, by go_num, rfl, L3.out, by unfold Hid; rw [List.map_append, hp.out, take_at HV.out]; rfl, E3.out⟩
      case measure => simp [intOf]; omega
    · have hkm : k = m := by have := HI.out; omega
      subst hkm
      go_wp2_with fail
      go_ret
      exact ⟨O, oc, ps, rfl, hO.out, by rw [hp.out, List.take_of_length_le (by rw [vsLm_len]; omega)], HB.out⟩
set_option maxHeartbeats 1000000 in
theorem l12Apply_c (A : Option Addr) (n c : Nat) (t : LT) (G : Option Addr) (m mc N : Nat) (ps : List Tm) (w : World) (h : Rd2 w A n t) (hG : RdV w 2 G m (ps.map Tm.it)) (hm : m ≤ 1000) (hn : n ≤ 1000000) (hs : ((ps.map Tm.t).flatten).length ≤ 1000000) (hN : m + n + ((ps.map Tm.t).flatten).length = N) :
    Calls Tryz.prog 78 #[.slice A n c, .slice G m mc] w (TmOut (appLm t (ps.map Tm.t)) N w) := by
  have HL := Lib.hid (itLen hG)
  have H := Lib.hid h; have HG := Lib.hid hG; have HN := Lib.hid hN
  have hNb : N ≤ 3000000 := by omega
  have hln := h.len
  clear h hG hN
  go_enter Tryz.func78, Tryz.ntmps78
  go_wp2_with fail
  go_loopw [5, 6] (fun ov iv wr => ∃ (j oc : Nat) (O : Option Addr), j ≤ m ∧ iv = .int .i64 j ∧ ov = .slice O j oc ∧ Hid (Own wr w.heap.size 62 2 O j oc ((List.replicate j ((2 : Int), (0 : Int))).flatMap enc2)) ∧ Below w.heap.size w wr) (fun _ iv _ => m - (intOf iv).toNat)
  case atStart => exact ⟨0, 0, _, by omega, rfl, rfl, Own.litK (Nat.le_refl _), below_size.alloc (Nat.le_refl _) _⟩
  case round =>
    obtain ⟨j, oc, O, hj, rfl, rfl, hO, hb⟩ := hrel
    have HB := Lib.hid hb
    have hwz := hb.size
    by_cases hlt : j < m
    · clear hb
      go_wp2_with (at_builtin; refine wp_appLam (by rfl) _ _ (by rfl) w.heap.size O j oc _ (by rfl) (by exact hO.out.alloc _) (some ⟨wr.heap.size, 0, none⟩) 1 1 [(2, 0)] (by rfl) (by exact Rd2.lit rfl rfl) (by omega) (by simp; omega) ?_; intro A1 c1 w1 own1 hb1 hk1 hg1 hz1; have E1 := Lib.hid ((HB.out.alloc hwz _).trans hb1); have O1 := Lib.hid own1; clear own1 hb1 hk1 hg1 hz1)
      go_roundw
      case rel => exact ⟨j + 1, c1, A1, by omega, by go_num, rfl, by unfold Hid; rw [List.replicate_succ', List.flatMap_append]; exact O1.out, E1.out⟩
      case measure => simp [intOf]; omega
    · obtain rfl : j = m := by omega
      have H1 := Lib.hid (H.out.below hb)
      clear hb
      go_wp2_with (at_builtin; refine wp_appLam (by rfl) _ _ (by rfl) w.heap.size O j oc _ (by rfl) (by exact hO.out) A n c t (by rfl) (by exact H1.out) (by omega) hwz ?_; intro A1 c1 w1 own1 hb1 hk1 hg1 hz1; have E1 := Lib.hid (HB.out.trans hb1); have O1 := Lib.hid own1; clear own1 hb1 hk1 hg1 hz1)
      go_loopw [5, 7] (fun ov iv wr => ∃ (i p oc : Nat) (O : Option Addr), i ≤ j ∧ iv = .int .i64 i ∧ ov = .slice O p oc ∧ Hid (p = j + n + (((ps.take i).map Tm.t).flatten).length) ∧ p ≤ N ∧ Hid (Own wr w.heap.size 62 2 O p oc ((List.replicate j ((2 : Int), (0 : Int))).flatMap enc2 ++ t.flatMap enc2 ++ (((ps.take i).map Tm.t).flatten).flatMap enc2)) ∧ Below w.heap.size w wr) (fun _ iv _ => j - (intOf iv).toNat)
      case atStart => exact ⟨0, j + n, c1, A1, by omega, rfl, rfl, by simp [Hid], by have := HN.out; omega, by unfold Hid; simpa using O1.out, E1.out⟩
      case round =>
        clear hO O1 E1 H1 HB hwz
        obtain ⟨i, p, oc, O, hi, rfl, rfl, hp, hpN, hO, hb⟩ := hrel
        have HB := Lib.hid hb
        have hwz := hb.size
        by_cases hlt2 : i < j
        · obtain ⟨ad, tt, rfl, ht, hc, hrd, hone⟩ := (HG.out.below hb).at_ hlt2
          rw [List.getElem?_map] at ht
          obtain ⟨q, hq⟩ : ∃ q, ps[i]? = some q := ⟨_, List.getElem?_eq_getElem (by rw [HL.out]; exact hlt2)⟩
          rw [hq] at ht; injection ht with ht; subst ht
          have RD := Lib.hid (show Rd2 wr q.A q.t.length q.t from hrd)
          have hcc : wr.cell? (ad.add i) = some (.slice q.A q.t.length q.c) := hc
          have HF := Lib.hid (LmS.drop_at hq)
          obtain ⟨l, hl⟩ : ∃ l, q.t.length = l := ⟨_, rfl⟩
          have hle := flat_le (ps := ps) (j := i + 1)
          rw [LmS.drop_at hq, List.length_append, hl] at hle
          rw [hl] at RD hcc
          have HLL := Lib.hid hl
          have hpl : p + l ≤ N := by have h1 := hp.out; have h2 := HN.out; omega
          clear hq hrd hone hc hb hl hle
          go_wp2_with (at_builtin; refine wp_appLam (by rfl) _ _ (by rfl) w.heap.size O p oc _ (by rfl) (by exact hO.out) q.A l q.c q.t (by rfl) (by exact RD.out) (by omega) hwz ?_; intro A1 c1 w1 own1 hb1 hk1 hg1 hz1; have E1 := Lib.hid (HB.out.trans hb1); have O1 := Lib.hid own1; clear own1 hb1 hk1 hg1 hz1)
          go_roundw
          case rel => exact ⟨i + 1, p + l, c1, A1, by omega, by go_num, rfl, by unfold Hid; rw [HF.out, List.length_append, HLL.out, hp.out]; omega, hpl, by unfold Hid; rw [HF.out, List.flatMap_append, ← List.append_assoc]; exact O1.out, E1.out⟩
          case measure => simp [intOf]; omega
        · obtain rfl : i = j := by omega
          have HT := Lib.hid (show ps.take i = ps from List.take_of_length_le (by rw [HL.out]; exact Nat.le_refl _))
          have HP := Lib.hid (show p = N by have h1 := hp.out; rw [HT.out] at h1; rw [h1, HN.out])
          clear hb
          go_wp2_with fail
          go_ret
          have h9 := hO.out
          rw [HT.out, HP.out] at h9
          rw [HP.out]
          refine ⟨O, oc, rfl, by rw [appLm_len, List.length_map, HL.out, hln, HN.out], ?_, h9.cap, HB.out⟩
          have h8 := h9.wrK
          rw [← appLm_enc, List.length_map, HL.out]
          exact h8
end Go.Proofs.YtebjpmmgdkepjaaGreatDoor
