/-
  Formula tapes of three words, in plain Lean: what the program and the reference search for.
-/
namespace Go.Proofs.Ytmmgejnhfpfmnaa

/-- walls and repeaters -/
abbrev Fd := List (List Int) × List (List Int)
def repN : Nat → List Int → List Int
  | 0, _ => []
  | m + 1, xs => repN m xs ++ xs
def tailF (m : Nat) : List (List Int) → List (List Int) → List Int
  | r :: rs, w :: ws => repN m r ++ (w ++ tailF m rs ws)
  | _, _ => []
def fullF (m : Nat) (F : Fd) : List Int := F.1.headD [] ++ tailF m F.2 F.1.tail
def fitF (b c : List Int) (F : Fd) : Bool := decide (fullF 1 F = b) && decide (fullF 2 F = c)
/-- parts: a wall, a repeater, a wall .. -/
def dblP : Bool → List (List Int) → List Int
  | _, [] => []
  | true, w :: l => w ++ dblP false l
  | false, r :: l => (r ++ r) ++ dblP true l
def oneP : List (List Int) → List Int
  | [] => []
  | w :: l => w ++ oneP l
def wallsP : Bool → List (List Int) → List (List Int)
  | _, [] => []
  | true, w :: l => w :: wallsP false l
  | false, _ :: l => wallsP true l
def repsP : Bool → List (List Int) → List (List Int)
  | _, [] => []
  | true, _ :: l => repsP false l
  | false, r :: l => r :: repsP true l
def partsF (l : List (List Int)) : Fd := (wallsP true l, repsP true l)
theorem repN1 (xs : List Int) : repN 1 xs = xs := by simp [repN]
theorem repN2 (xs : List Int) : repN 2 xs = xs ++ xs := by simp [repN]
theorem fit3 (b c x y z : List Int) : (decide (oneP [x, y, z] = b) && decide (dblP true [x, y, z] = c)) = fitF b c ([x, z], [y]) := by
  simp [fitF, fullF, tailF, oneP, dblP, repN1, repN2]
theorem fit5 (b c x y z u v : List Int) : (decide (oneP [x, y, z, u, v] = b) && decide (dblP true [x, y, z, u, v] = c)) = fitF b c ([x, z, v], [y, u]) := by
  simp [fitF, fullF, tailF, oneP, dblP, repN1, repN2]
/-- one repeater, between a[:j] and a[j:] -/
def cand1 (a b : List Int) (g j : Nat) : Fd := ([a.take j, a.drop j], [(b.drop j).take g])
/-- two repeaters -/
def cand2 (a b : List Int) (g k i j : Nat) : Fd := ([a.take i, (a.drop i).take (j - i), a.drop j], [(b.drop i).take k, (b.drop (j + k)).take (g - k)])
def seek (p : Nat → Option Fd) : Nat → Nat → Option Fd
  | 0, _ => none
  | f + 1, j => (p j).or (seek p f (j + 1))
def okF (b c : List Int) (F : Fd) : Option Fd := if fitF b c F then some F else none
def find1 (a b c : List Int) (g f j : Nat) : Option Fd := seek (fun j => okF b c (cand1 a b g j)) f j
def findJ (a b c : List Int) (g k i f j : Nat) : Option Fd := seek (fun j => okF b c (cand2 a b g k i j)) f j
def findI (a b c : List Int) (g k f i : Nat) : Option Fd := seek (fun i => findJ a b c g k i (a.length - i) i) f i
def findK (a b c : List Int) (g f k : Nat) : Option Fd := seek (fun k => findI a b c g k a.length 0) f k
def findF (a b c : List Int) (g : Nat) : Option Fd := (find1 a b c g a.length 0).or (findK a b c g (g - 1) 1)
theorem seek_hit {p : Nat → Option Fd} {f j : Nat} {F : Fd} (h : p j = some F) : seek p (f + 1) j = some F := by rw [seek, h]; rfl
theorem seek_miss {p : Nat → Option Fd} {f j : Nat} (h : p j = none) : seek p (f + 1) j = seek p f (j + 1) := by rw [seek, h]; rfl
theorem seek_none {p : Nat → Option Fd} : ∀ {f j : Nat}, (∀ i, j ≤ i → p i = none) → seek p f j = none
  | 0, _, _ => rfl
  | f + 1, j, h => by rw [seek_miss (h j (Nat.le_refl _))]; exact seek_none fun i hi => h i (by omega)
theorem okF_t {b c : List Int} {F : Fd} (h : fitF b c F = true) : okF b c F = some F := by rw [okF, h]; rfl
theorem okF_f {b c : List Int} {F : Fd} (h : fitF b c F = false) : okF b c F = none := by rw [okF, h]; rfl
/-- where a[:i] isn't b[:i], no tape fits -/
theorem fit_head {a b c : List Int} {g k i j : Nat} (hl : i ≤ a.length) (h : a.take i ≠ b.take i) : fitF b c (cand2 a b g k i j) = false := by
  have : fullF 1 (cand2 a b g k i j) ≠ b := fun e => h (by
    have h2 := congrArg (List.take i) e
    rw [← h2]
    simp only [fullF, cand2, List.headD_cons]
    rw [List.take_append_of_le_length (by simp; omega), List.take_take, Nat.min_self])
  simp [fitF, this]
theorem take_ne {a b : List Int} {i i' : Nat} (h : a.take i ≠ b.take i) (hi : i ≤ i') : a.take i' ≠ b.take i' := fun e => h (by
  have h2 := congrArg (List.take i) e
  rwa [List.take_take, List.take_take, Nat.min_eq_left hi] at h2)
theorem findI_break {a b c : List Int} {g k i f : Nat} (h : a.take i ≠ b.take i) (hf : f + i ≤ a.length) : findI a b c g k f i = none := by
  have key : ∀ (f i : Nat), a.take i ≠ b.take i → f + i ≤ a.length → seek (fun i => findJ a b c g k i (a.length - i) i) f i = none := by
    intro f
    induction f with
    | zero => intro i _ _; rfl
    | succ f ih =>
      intro i h hf
      refine (seek_miss (p := fun i => findJ a b c g k i (a.length - i) i) (show findJ a b c g k i (a.length - i) i = none from seek_none fun j _ => okF_f (fit_head (by omega) h))).trans ?_
      exact ih (i + 1) (take_ne h (by omega)) (by omega)
  exact key f i h hf
/-- the formula tape's numbers, walls, repeaters, offsets -/
abbrev FR := Int × Int × Int × List (List Int) × List (List Int) × List Int
def formF (s : Int) (F : Fd) : FR := (s, (F.2.length : Int), ((F.1.getD F.2.length []).length : Int) - 1, F.1, F.2, List.replicate F.2.length 0)
def zeroF : FR := (0, 0, 0, [], [], [])
def lenB (a b c : List Int) : Bool := decide (0 < a.length ∧ a.length ≤ 40 ∧ a.length + 1 ≤ b.length ∧ b.length ≤ a.length + 8 ∧ (c.length : Int) - b.length = (b.length : Int) - a.length)
def foundF (s : Int) (o : Option Fd) : FR × Int := match o with | some F => (formF s F, 0) | none => (zeroF, 3)
end Go.Proofs.Ytmmgejnhfpfmnaa
