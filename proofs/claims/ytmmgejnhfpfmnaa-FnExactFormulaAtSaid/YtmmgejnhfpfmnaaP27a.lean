/-
  Plain Lean: the configuration that a formula tape stands for at some counts. Nothing of the program.
-/
import Derived.Test.YtmmgejnhfpfmnaaC27f
import Derived.Test.YtmmgejnhfpfmnaaC27r
import Derived.Test.YtmmgejnhfpfmnaaPlain02
import Derived.Test.YtmmgejnhfpfmnaaC05c
namespace Go.Proofs.Ytmmgejnhfpfmnaa
open Go.RowKit

theorem allB_ofM {lo hi : Int} : ∀ {xs : List Int}, (∀ x ∈ xs, lo ≤ x ∧ x ≤ hi) → allB lo hi xs = true
  | [], _ => rfl
  | x :: l, h => by rw [allB, inB_of (h x (by simp)).1 (h x (by simp)).2, allB_ofM fun y hy => h y (by simp [hy])]; rfl
/-- what a valid formula tape is -/
structure FormOk (sy st s hd a : Int) (ws rps : List (List Int)) (os : List Int) : Prop where
  s0 : 0 ≤ s ∧ s ≤ st - 1
  r : 1 ≤ rps.length ∧ rps.length ≤ 3
  nw : ws.length = rps.length + 1
  no : os.length = rps.length
  hhd : 0 ≤ hd ∧ hd ≤ rps.length
  w : ∀ x ∈ ws, x.length ≤ 100 ∧ allB 0 (sy - 1) x = true
  p : ∀ x ∈ rps, 1 ≤ x.length ∧ x.length ≤ 20 ∧ allB 0 (sy - 1) x = true
  o : ∀ x ∈ os, -1000 ≤ x ∧ x ≤ 1000
  lo : -1 ≤ a ∧ (hd = 0 → 0 ≤ a)
  hi : a ≤ (ws.getD hd.toNat []).length
theorem formB_ok {sy st s hd a : Int} {ws rps : List (List Int)} {os : List Int} (h : formB sy st s hd a ws rps os = true) : FormOk sy st s hd a ws rps os := by
  unfold formB formN at h
  simp only [Bool.and_eq_true, List.all_eq_true, decide_eq_true_eq, inB_iff] at h
  obtain ⟨⟨⟨⟨⟨h1, h2⟩, h3⟩, h4⟩, h5⟩, h6, ⟨h7, h8⟩, h9⟩ := h
  have h9' := inB_t h9
  refine ⟨h1, by omega, by omega, by omega, h5, fun x hx => ?_, fun x hx => ?_, fun x hx => allB_mem h8 x hx, ?_, ?_⟩
  · have := h6 x hx
    unfold symB at this
    simp only [Bool.and_eq_true, decide_eq_true_eq] at this
    exact ⟨by omega, this.1⟩
  · have := h7 x hx
    unfold repB at this
    simp only [Bool.and_eq_true, inB_iff] at this
    exact ⟨by omega, by omega, this.2⟩
  · have := h9'.1
    split at this <;> (refine ⟨by omega, fun e => by omega⟩)
  · have := h9'.2
    split at this <;> omega
def ksOf (cs os : List Int) : List Nat := List.zipWith (fun x o => (x + o).toNat) cs os
theorem ksOf_at {cs os : List Int} {k : Nat} {x o : Int} (h : cs[k]? = some x) (h' : os[k]? = some o) : (ksOf cs os).getD k 0 = (x + o).toNat := by
  rw [List.getD_eq_getElem?_getD, ksOf, List.getElem?_zipWith, h, h']; rfl
/-- the cells of the first walls with the repeaters behind them -/
def preC (ws rs : List (List Int)) (ks : List Nat) : Nat → List Int
  | 0 => []
  | i + 1 => preC ws rs ks i ++ (ws.getD i [] ++ if i < rs.length then repN (ks.getD i 0) (rs.getD i []) else [])
def cellsC (ws rs : List (List Int)) (ks : List Nat) : List Int := preC ws rs ks ws.length
def atC (hd a : Int) (ws rs : List (List Int)) (ks : List Nat) : Int := a + ((preC ws rs ks hd.toNat).length : Nat)
def cutL (cs : List Int) (b : Int) : List Int := if b < 0 then [] else trimL (cs.take b.toNat).reverse
def cutR (cs : List Int) (b : Int) : List Int := if b < 0 then trimL (0 :: cs) else trimL (cs.drop b.toNat)
def cfgF (s hd a : Int) (ws rs : List (List Int)) (ks : List Nat) : Int × List Int × List Int := (s, cutL (cellsC ws rs ks) (atC hd a ws rs ks), cutR (cellsC ws rs ks) (atC hd a ws rs ks))
def negB : List Int → List Int → Bool
  | x :: cs, o :: os => decide (x + o < 0) || negB cs os
  | _, _ => false
theorem negB_at {cs os : List Int} {k : Nat} {x o : Int} (h : cs[k]? = some x) (h' : os[k]? = some o) : negB (cs.drop k) (os.drop k) = (decide (x + o < 0) || negB (cs.drop (k + 1)) (os.drop (k + 1))) := by
  rw [drop_at h, drop_at h', negB]
theorem negB_nil {os : List Int} : negB [] os = false := by cases os <;> rfl
theorem negB_f : ∀ {cs os : List Int} {k : Nat} {x o : Int}, negB cs os = false → cs[k]? = some x → os[k]? = some o → 0 ≤ x + o
  | [], _, _, _, _, _, h, _ => by simp at h
  | _ :: _, [], _, _, _, _, _, h => by simp at h
  | x :: cs, o :: os, 0, y, p, h, h1, h2 => by
    simp only [negB, Bool.or_eq_false_iff, decide_eq_false_iff_not] at h
    simp at h1 h2; subst h1; subst h2; omega
  | x :: cs, o :: os, k + 1, y, p, h, h1, h2 => by
    simp only [negB, Bool.or_eq_false_iff] at h
    exact negB_f h.2 (by simpa using h1) (by simpa using h2)
/-- small counts -/
structure CntOk (cs os : List Int) (r : Nat) : Prop where
  nc : cs.length = r
  no : os.length = r
  le : ∀ (k : Nat) (x o : Int), cs[k]? = some x → os[k]? = some o → 0 ≤ x + o ∧ x + o ≤ 1064
theorem CntOk.ks {cs os : List Int} {r : Nat} (h : CntOk cs os r) (k : Nat) : (ksOf cs os).getD k 0 ≤ 1064 := by
  by_cases hk : k < r
  · have h1 : cs[k]? = some cs[k]! := by rw [getElem!_pos cs k (by rw [h.nc]; exact hk)]; exact List.getElem?_eq_getElem _
    have h2 : os[k]? = some os[k]! := by rw [getElem!_pos os k (by rw [h.no]; exact hk)]; exact List.getElem?_eq_getElem _
    rw [ksOf_at h1 h2]
    have := h.le k _ _ h1 h2; omega
  · rw [List.getD_eq_getElem?_getD, List.getElem?_eq_none (by simp [ksOf]; have := h.nc; have := h.no; omega)]; simp
section
variable {sy st s hd a : Int} {ws rps : List (List Int)} {os cs : List Int}
theorem mem_getD {x : List (List Int)} {k : Nat} (h : k < x.length) : x.getD k [] ∈ x := by
  rw [List.getD_eq_getElem?_getD, List.getElem?_eq_getElem h]; exact List.getElem_mem h
theorem rep_bd {ks : List Nat} (hp : ∀ x ∈ rps, 1 ≤ x.length ∧ x.length ≤ 20 ∧ allB 0 (sy - 1) x = true) (hk : ∀ k, ks.getD k 0 ≤ 1064) (i : Nat) : (if i < rps.length then repN (ks.getD i 0) (rps.getD i []) else []).length ≤ 21280 := by
  split
  · rename_i h
    rw [repN_len]
    have h1 := (hp _ (mem_getD h)).2.1
    have h2 := hk i
    exact Nat.le_trans (Nat.mul_le_mul h2 h1) (by omega)
  · simp
theorem preC_bd {ks : List Nat} (h : FormOk sy st s hd a ws rps os) (hk : ∀ k, ks.getD k 0 ≤ 1064) : ∀ i, i ≤ ws.length → (preC ws rps ks i).length ≤ i * 21380
  | 0, _ => by simp [preC]
  | i + 1, hi => by
    have h1 := preC_bd h hk i (by omega)
    have h2 := (h.w _ (mem_getD (show i < ws.length by omega))).1
    have h3 := rep_bd (ks := ks) h.p hk i
    rw [preC, List.length_append, List.length_append, Nat.succ_mul]; omega
theorem preC_mono {ws rs : List (List Int)} {ks : List Nat} {i : Nat} : ∀ j, (preC ws rs ks i).length ≤ (preC ws rs ks (i + j)).length
  | 0 => Nat.le_refl _
  | j + 1 => by
    have h1 := preC_mono (ws := ws) (rs := rs) (ks := ks) (i := i) j
    show _ ≤ (preC ws rs ks (i + j + 1)).length
    rw [preC, List.length_append]; omega
theorem cells_bd (h : FormOk sy st s hd a ws rps os) (hc : CntOk cs os rps.length) : (cellsC ws rps (ksOf cs os)).length ≤ 100000 := by
  have h1 := preC_bd h hc.ks ws.length (Nat.le_refl _)
  have h2 := h.nw; have h3 := h.r
  have h4 : ws.length * 21380 ≤ 4 * 21380 := Nat.mul_le_mul_right _ (by omega)
  unfold cellsC; omega
theorem at_bd (h : FormOk sy st s hd a ws rps os) (hc : CntOk cs os rps.length) : -1 ≤ atC hd a ws rps (ksOf cs os) ∧ atC hd a ws rps (ksOf cs os) ≤ (cellsC ws rps (ksOf cs os)).length := by
  have h1 := h.lo; have h2 := h.hi; have h3 := h.hhd; have h4 := h.nw
  unfold atC cellsC
  refine ⟨by omega, ?_⟩
  have h5 := preC_mono (ws := ws) (rs := rps) (ks := ksOf cs os) (i := hd.toNat + 1) (ws.length - (hd.toNat + 1))
  rw [show hd.toNat + 1 + (ws.length - (hd.toNat + 1)) = ws.length by omega] at h5
  rw [preC, List.length_append, List.length_append] at h5
  omega
theorem allB_repN {lo hi : Int} {xs : List Int} (h : allB lo hi xs = true) : ∀ m, ∀ x ∈ repN m xs, lo ≤ x ∧ x ≤ hi
  | 0, x, hx => by simp [repN] at hx
  | m + 1, x, hx => by
    rw [repN] at hx
    rcases List.mem_append.1 hx with hx | hx
    · exact allB_repN h m x hx
    · exact allB_mem h x hx
theorem preC_sym {ks : List Nat} (h : FormOk sy st s hd a ws rps os) : ∀ i, i ≤ ws.length → ∀ x ∈ preC ws rps ks i, 0 ≤ x ∧ x ≤ sy - 1
  | 0, _, x, hx => by simp [preC] at hx
  | i + 1, hi, x, hx => by
    rw [preC] at hx
    rcases List.mem_append.1 hx with hx | hx
    · exact preC_sym h i (by omega) x hx
    · rcases List.mem_append.1 hx with hx | hx
      · exact allB_mem (h.w _ (mem_getD (show i < ws.length by omega))).2 x hx
      · split at hx
        · rename_i h1; exact allB_repN (h.p _ (mem_getD h1)).2.2 _ x hx
        · simp at hx
theorem trimL_mem {xs : List Int} {x : Int} (h : x ∈ trimL xs) : x ∈ xs := by
  rw [trimL_take] at h; exact List.mem_of_mem_take h
theorem trimL_last (xs : List Int) : lastB (trimL xs) = true := by
  have h : ∀ ys : List Int, lastB (ys.dropWhile (· == 0)).reverse = true := by
    intro ys
    induction ys with
    | nil => rfl
    | cons y l ih =>
      rw [List.dropWhile_cons]
      split
      · exact ih
      · rename_i hy
        unfold lastB
        rw [List.reverse_cons, List.length_append, List.length_reverse]
        simp only [List.length_singleton, Nat.add_sub_cancel, List.getD_eq_getElem?_getD]
        rw [List.getElem?_append_right (by simp)]
        simp only [List.length_reverse, Nat.sub_self, List.getElem?_cons_zero, Option.getD_some]
        simpa using hy
  exact h xs.reverse
theorem side_trim {xs : List Int} (h : ∀ x ∈ xs, 0 ≤ x ∧ x ≤ sy - 1) : sideB sy 200 (trimL xs) = decide (((trimL xs).length : Int) ≤ 200) := by
  unfold sideB
  rw [allB_ofM fun x hx => h x (trimL_mem hx), trimL_last, Bool.and_true, Bool.and_true]
theorem trimL_snoc0 (xs : List Int) : trimL (xs ++ [0]) = trimL xs := by simp [trimL]
def fitC (D : Int × List Int × List Int) : Bool := decide ((D.2.1.length : Int) ≤ 200) && decide ((D.2.2.length : Int) ≤ 200)
theorem cfg_good (h : FormOk sy st s hd a ws rps os) (hsy : 2 ≤ sy) (ks : List Nat) : confB sy st s (cfgF s hd a ws rps ks).2.1 (cfgF s hd a ws rps ks).2.2 = fitC (cfgF s hd a ws rps ks) := by
  have hs : ∀ x ∈ cellsC ws rps ks, 0 ≤ x ∧ x ≤ sy - 1 := preC_sym h ws.length (Nat.le_refl _)
  have h1 : ∀ b, sideB sy 200 (cutL (cellsC ws rps ks) b) = decide (((cutL (cellsC ws rps ks) b).length : Int) ≤ 200) := by
    intro b; unfold cutL; split
    · rfl
    · exact side_trim fun x hx => hs x (List.mem_of_mem_take (List.mem_reverse.1 hx))
  have h2 : ∀ b, sideB sy 200 (cutR (cellsC ws rps ks) b) = decide (((cutR (cellsC ws rps ks) b).length : Int) ≤ 200) := by
    intro b; unfold cutR; split
    · exact side_trim fun x hx => by
        rcases List.mem_cons.1 hx with rfl | hx
        · omega
        · exact hs x hx
    · exact side_trim fun x hx => hs x (List.mem_of_mem_drop hx)
  unfold confB fitC cfgF
  simp only
  rw [inB_of h.s0.1 h.s0.2, h1, h2, Bool.true_and]
end
def zeroC : Int × List Int × List Int := (0, [], [])
/-- what FormulaAt answers -/
def fatO (s hd a : Int) (ws rps : List (List Int)) (os cs : List Int) : (Int × List Int × List Int) × Int :=
  if fitC (cfgF s hd a ws rps (ksOf cs os)) then (cfgF s hd a ws rps (ksOf cs os), 0) else (zeroC, 5)
def fatR (sy st : Int) (rs : List Rule3) (s hd a : Int) (ws rps : List (List Int)) (os cs : List Int) : (Int × List Int × List Int) × Int :=
  if vformB sy st rs s hd a ws rps os then (if cs.length = rps.length then (if allB 0 64 cs then (if negB cs os then (zeroC, 7) else fatO s hd a ws rps os cs) else (zeroC, 2)) else (zeroC, 2)) else (zeroC, 1)
theorem cnt_ok {sy st s hd a : Int} {ws rps : List (List Int)} {os cs : List Int} (h : FormOk sy st s hd a ws rps os) (h1 : cs.length = rps.length) (h2 : allB 0 64 cs = true) (h3 : negB cs os = false) : CntOk cs os rps.length :=
  ⟨h1, h.no, fun k x o hx ho => ⟨negB_f h3 hx ho, by have := allB_mem h2 x (List.mem_of_getElem? hx); have := h.o o (List.mem_of_getElem? ho); omega⟩⟩
end Go.Proofs.Ytmmgejnhfpfmnaa
