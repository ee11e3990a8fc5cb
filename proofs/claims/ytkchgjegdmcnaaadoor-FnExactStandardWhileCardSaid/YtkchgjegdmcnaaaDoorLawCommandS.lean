/-
  The helpers of the laws at []Command.
-/
import Derived.Test.YtkchgjegdmcnaaaDoorLawII
import Derived.Test.YtkchgjegdmcnaaaDoorLawCommand
namespace Go.Proofs.YtkchgjegdmcnaaaDoor
open Go.RowKit

/-- a command in memory, as an element -/
structure Ct where
  kd : Int
  vr : Int
  ln : Int
  A : Option Addr
  n : Nat
  c : Nat
  xs : List (Int × Int)
def hdC (t : Ct) : List Value := [i64 t.kd, i64 t.vr, i64 t.ln, .slice t.A t.n t.c]
def bodyC (t : Ct) : Seg := sgX enc2 2 t.A t.n t.xs
/-- what a command is -/
def datC (t : Ct) : Int × Int × Int × List (Int × Int) := (t.kd, t.vr, t.ln, t.xs)
def sgCS (A : Option Addr) (n : Nat) (ps : List Ct) : List Seg := ⟨A, n * 4, ps.flatMap hdC⟩ :: ps.map bodyC
theorem hdC_len (t : Ct) : (hdC t).length = 4 := rfl
/-- the lengths of all values -/
def sumE : List Ct → Nat
  | [] => 0
  | t :: l => t.n + sumE l
theorem sumE_app : ∀ a b : List Ct, sumE (a ++ b) = sumE a + sumE b
  | [], b => by simp [sumE]
  | t :: a, b => by simp only [List.cons_append, sumE, sumE_app a b]; omega
theorem sumE_take {ps : List Ct} {k : Nat} {t : Ct} (h : ps[k]? = some t) : sumE (ps.take (k + 1)) = sumE (ps.take k) + t.n := by rw [take_at h, sumE_app]; simp [sumE]
theorem sumE_le {ps : List Ct} {k : Nat} : sumE (ps.take k) ≤ sumE ps := by
  have := sumE_app (ps.take k) (ps.drop k)
  rw [List.take_append_drop] at this; omega
theorem sumE_mem {ps : List Ct} {t : Ct} (h : t ∈ ps) : t.n ≤ sumE ps := by
  obtain ⟨k, hk⟩ := List.mem_iff_getElem?.1 h
  have h1 := sumE_take hk
  have h2 := sumE_le (ps := ps) (k := k + 1)
  omega
/-- the marks that all take -/
def sumC : List Ct → Nat
  | [] => 0
  | t :: l => t.n * 2 + 3 + sumC l
theorem sumC_app : ∀ a b : List Ct, sumC (a ++ b) = sumC a + sumC b
  | [], b => by simp [sumC]
  | t :: a, b => by simp only [List.cons_append, sumC, sumC_app a b]; omega
theorem sumC_take {ps : List Ct} {k : Nat} {t : Ct} (h : ps[k]? = some t) : sumC (ps.take (k + 1)) = sumC (ps.take k) + t.n * 2 + 3 := by rw [take_at h, sumC_app]; simp [sumC]; omega
theorem sumC_le {ps : List Ct} {k : Nat} : sumC (ps.take k) ≤ sumC ps := by
  have := sumC_app (ps.take k) (ps.drop k)
  rw [List.take_append_drop] at this; omega
theorem sumC_eq : ∀ ps : List Ct, sumC ps = 3 * ps.length + 2 * sumE ps
  | [] => rfl
  | t :: l => by simp only [sumC, sumE, List.length_cons, sumC_eq l]; omega
/-- marks, by pairs -/
def markE (k : Int) : Nat → List (Int × Int)
  | 0 => []
  | n + 1 => (k, k + 1) :: markE (k + 1 + 1) n
theorem markE_flat : ∀ (n : Nat) (k : Int), (markE k n).flatMap enc2 = (marks k (n * 2)).map i64
  | 0, k => rfl
  | n + 1, k => by rw [markE, List.flatMap_cons, markE_flat n, show (n + 1) * 2 = n * 2 + 1 + 1 by omega]; rfl
/-- the elements, marked from k on -/
def markC : List Ct → Int → List Ct
  | [], _ => []
  | t :: l, k => { t with kd := k, vr := k + 1, ln := k + 1 + 1, xs := markE (k + 1 + 1 + 1) t.n } :: markC l (k + 1 + 1 + 1 + (t.n * 2 : Nat))
theorem markC_len : ∀ (l : List Ct) (k : Int), (markC l k).length = l.length
  | [], k => rfl
  | t :: l, k => by simp [markC, markC_len l]
theorem markC_app : ∀ (a b : List Ct) (k : Int), markC (a ++ b) k = markC a k ++ markC b (k + (sumC a : Nat))
  | [], b, k => by simp [markC, sumC]
  | t :: a, b, k => by simp only [List.cons_append, markC, sumC, markC_app a b]; congr 3; omega
theorem markC_at {ps : List Ct} {k : Nat} {t : Ct} {k0 : Int} (h : ps[k]? = some t) : (markC ps k0)[k]? = some { t with kd := k0 + (sumC (ps.take k) : Nat), vr := k0 + (sumC (ps.take k) : Nat) + 1, ln := k0 + (sumC (ps.take k) : Nat) + 1 + 1, xs := markE (k0 + (sumC (ps.take k) : Nat) + 1 + 1 + 1) t.n } := by
  conv => lhs; rw [← List.take_append_drop k ps, drop_at h, markC_app, markC]
  have hl : (markC (ps.take k) k0).length = k := by rw [markC_len, List.length_take]; have := (List.getElem?_eq_some_iff.1 h).1; omega
  rw [List.getElem?_append_right (by omega), hl, Nat.sub_self]; rfl
theorem flatC_set {M D : List Ct} {t : Ct} {k : Nat} (hk : M.length = k) (j : Nat) (hj : j < 4) (u : Value) : ((M ++ t :: D).flatMap hdC).set (k * 4 + j) u = M.flatMap hdC ++ ((hdC t).set j u ++ D.flatMap hdC) := by
  rw [List.flatMap_append, List.set_append_right _ _ (by rw [flatX_len hdC 4 hdC_len, hk]; omega), flatX_len hdC 4 hdC_len, hk, Nat.add_sub_cancel_left, List.flatMap_cons, List.set_append_left _ _ (by rw [hdC_len]; exact hj)]
theorem flatC_set0 {M D : List Ct} {t : Ct} {k : Nat} (hk : M.length = k) (v : Int) : ((M ++ t :: D).flatMap hdC).set (k * 4) (i64 v) = (M ++ { t with kd := v } :: D).flatMap hdC := by
  have := flatC_set (t := t) (D := D) hk 0 (by omega) (i64 v)
  rw [Nat.add_zero] at this
  rw [this]; simp [hdC]
theorem flatC_set1 {M D : List Ct} {t : Ct} {k : Nat} (hk : M.length = k) (v : Int) : ((M ++ t :: D).flatMap hdC).set (k * 4 + 1) (i64 v) = (M ++ { t with vr := v } :: D).flatMap hdC := by
  rw [flatC_set (t := t) (D := D) hk 1 (by omega) (i64 v)]; simp [hdC]
theorem flatC_set2 {M D : List Ct} {t : Ct} {k : Nat} (hk : M.length = k) (v : Int) : ((M ++ t :: D).flatMap hdC).set (k * 4 + 2) (i64 v) = (M ++ { t with ln := v } :: D).flatMap hdC := by
  rw [flatC_set (t := t) (D := D) hk 2 (by omega) (i64 v)]; simp [hdC]
section
variable {w w' : World} {A : Option Addr} {n : Nat} {ps : List Ct}
theorem RdCS.len (h : RdS w (sgCS A n ps)) : ps.length = n := by have := h.head.1; simp only [flatX_len hdC 4 hdC_len] at this; omega
theorem RdCS.body (h : RdS w (sgCS A n ps)) {t : Ct} (ht : t ∈ ps) : RdS w (sgCommand t.A t.n t.xs) := RdS.one (h.tail (bodyC t) (List.mem_map_of_mem ht))
theorem RdCS.at_ {k : Nat} (h : RdS w (sgCS A n ps)) (hk : k < n) : ∃ ad t, A = some ad ∧ ad.block < w.heap.size ∧ ps[k]? = some t ∧ w.cell? (ad.add (k * 4)) = some (i64 t.kd) ∧ w.cell? ⟨(ad.add (k * 4)).block, (ad.add (k * 4)).off + 1, none⟩ = some (i64 t.vr) ∧
    w.cell? ⟨(ad.add (k * 4)).block, (ad.add (k * 4)).off + 2, none⟩ = some (i64 t.ln) ∧ w.cell? ⟨(ad.add (k * 4)).block, (ad.add (k * 4)).off + 3, none⟩ = some (.slice t.A t.n t.c) ∧ RdS w (sgCommand t.A t.n t.xs) := by
  have hl := RdCS.len h
  have ht : ps[k]? = some ps[k] := List.getElem?_eq_getElem (by omega)
  obtain ⟨ad, e, hb, hc⟩ := h.head.2 (by simp; omega)
  have h0 := flatX_at hdC 4 hdC_len ps k 0 _ ht (by omega)
  have h1 := flatX_at hdC 4 hdC_len ps k 1 _ ht (by omega)
  have h2 := flatX_at hdC 4 hdC_len ps k 2 _ ht (by omega)
  have h3 := flatX_at hdC 4 hdC_len ps k 3 _ ht (by omega)
  exact ⟨ad, ps[k], e, hb, ht, hc _ _ h0, by rw [next_off ad (k * 4) 0]; exact hc _ _ h1, by rw [next_off ad (k * 4) 1]; exact hc _ _ h2, by rw [next_off ad (k * 4) 2]; exact hc _ _ h3, RdCS.body h (List.getElem_mem (by omega))⟩
theorem RdCS.size {t : Ct} (h : RdS w (sgCS A n ps)) (ht : t ∈ ps) : t.xs.length = t.n := by
  have := (h.tail (bodyC t) (List.mem_map_of_mem ht)).1
  simp only [bodyC, sgX, flatX_len enc2 2 enc2_len] at this
  omega
end
theorem hiC_of {w w' : World} {A A' : Option Addr} {n n' B : Nat} {its js : List Ct} (h : RdS w (sgCS A n its)) (h' : RdS w' (sgCS A' n' js)) (hx : js.map datC = its.map datC) (hi : ∀ t ∈ its, t.n ≤ B) : ∀ t ∈ js, t.n ≤ B := by
  intro t ht
  have h1 := RdCS.size h' ht
  have h2 : datC t ∈ its.map datC := by rw [← hx]; exact List.mem_map_of_mem ht
  obtain ⟨u, hu, e⟩ := List.mem_map.1 h2
  have h3 := RdCS.size h hu
  have := hi u hu
  have e2 : u.xs = t.xs := congrArg (fun q => q.2.2.2) e
  rw [← h1, ← e2, h3]; exact this
theorem sumC_of {w w' : World} {A A' : Option Addr} {n n' : Nat} {its js : List Ct} (h : RdS w (sgCS A n its)) (h' : RdS w' (sgCS A' n' js)) (hx : js.map datC = its.map datC) : sumC js = sumC its := by
  have key : ∀ (a b : List Ct), (∀ t ∈ a, t.xs.length = t.n) → (∀ t ∈ b, t.xs.length = t.n) → b.map datC = a.map datC → sumC b = sumC a := by
    intro a
    induction a with
    | nil => intro b _ _ e; cases b with
      | nil => rfl
      | cons y b => cases e
    | cons x a ih => intro b ha hb e; cases b with
      | nil => cases e
      | cons y b =>
        rw [List.map_cons, List.map_cons] at e
        injection e with e1 e2
        have h1 := ih b (fun t ht => ha t (by simp [ht])) (fun t ht => hb t (by simp [ht])) e2
        have h2 := ha x (by simp); have h3 := hb y (by simp)
        have e4 : y.xs = x.xs := congrArg (fun q => q.2.2.2) e1
        rw [e4] at h3
        simp only [sumC]; omega
  exact key its js (fun t ht => RdCS.size h ht) (fun t ht => RdCS.size h' ht) hx

/-! ### A row of commands that is filled from the front -/
def z4C : List Value := [i64 0, i64 0, i64 0, .slice none 0 0]
def fillC (js : List Ct) (m : Nat) : Array Value := (js.flatMap hdC ++ (List.replicate m z4C).flatten).toArray
theorem z4_len : ∀ m, (List.replicate m z4C).flatten.length = m * 4
  | 0 => rfl
  | m + 1 => by rw [List.replicate_succ, List.flatten_cons, List.length_append, z4_len m]; simp [z4C]; omega
theorem z4_at : ∀ (m i : Nat), i < m * 4 → (List.replicate m z4C).flatten[i]? = z4C[i % 4]?
  | 0, i, h => by omega
  | m + 1, i, h => by
    rw [List.replicate_succ, List.flatten_cons]
    by_cases hi : i < 4
    · rw [List.getElem?_append_left (by simpa [z4C] using hi), Nat.mod_eq_of_lt hi]
    · rw [List.getElem?_append_right (by simp [z4C]; omega), show z4C.length = 4 from rfl, z4_at m (i - 4) (by omega)]
      congr 1; omega
theorem fillC_new (n : Nat) : madeCells #[.int .i64 0, .int .i64 0, .int .i64 0, .slice none 0 0] (n * 4) = fillC [] n := by
  apply Array.ext
  · simp only [madeCells, fillC, List.flatMap_nil, List.nil_append, List.size_toArray, z4_len]; simp
  · intro i h1 h2
    have hi : i < n * 4 := by simpa [madeCells] using h1
    have e : (fillC [] n)[i]? = z4C[i % 4]? := by
      unfold fillC; rw [List.getElem?_toArray, List.flatMap_nil, List.nil_append, z4_at n i hi]
    rw [Array.getElem?_eq_getElem h2] at e
    have hm := Nat.mod_lt i (show 0 < 4 by omega)
    simp only [madeCells, Array.getElem_map, Array.getElem_range, List.size_toArray, List.length_cons, List.length_nil]
    have e2 : ((#[.int .i64 0, .int .i64 0, .int .i64 0, .slice none 0 0] : Array Value))[i % 4]? = z4C[i % 4]? := by
      rw [List.getElem?_toArray]; rfl
    rw [← e2] at e
    rw [Array.getElem?_eq_getElem (by simpa using hm)] at e
    injection e with e
    rw [e]
    simp [hm]
theorem fillC_at {js : List Ct} {k : Nat} (hk : js.length = k) (m j : Nat) (hj : j < 4) : (fillC js (m + 1))[k * 4 + j]? = z4C[j]? := by
  unfold fillC
  rw [List.getElem?_toArray, List.getElem?_append_right (by rw [flatX_len hdC 4 hdC_len, hk]; omega), flatX_len hdC 4 hdC_len, hk, Nat.add_sub_cancel_left, List.replicate_succ, List.flatten_cons, List.getElem?_append_left (by simpa [z4C] using hj)]
theorem fillC_set {js : List Ct} {k : Nat} (hk : js.length = k) (m : Nat) (t : Ct) :
    ((((fillC js (m + 1)).setIfInBounds (k * 4) (i64 t.kd)).setIfInBounds (k * 4 + 1) (i64 t.vr)).setIfInBounds (k * 4 + 2) (i64 t.ln)).setIfInBounds (k * 4 + 3) (.slice t.A t.n t.c) = fillC (js ++ [t]) m := by
  have hl : (js.flatMap hdC).length = k * 4 := by rw [flatX_len hdC 4 hdC_len, hk]
  unfold fillC
  simp only [List.setIfInBounds_toArray]
  rw [List.set_append_right _ _ (by omega), hl, Nat.sub_self, List.set_append_right _ _ (by omega), hl, Nat.add_sub_cancel_left, List.set_append_right _ _ (by omega), hl, Nat.add_sub_cancel_left, List.set_append_right _ _ (by omega), hl, Nat.add_sub_cancel_left,
    List.replicate_succ, List.flatten_cons]
  simp [z4C, hdC]
theorem fillC_all (js : List Ct) (n : Nat) (h : js.length = n) : (fillC js 0).toList.take (n * 4) = js.flatMap hdC := by
  unfold fillC
  rw [List.replicate_zero, List.flatten_nil, List.append_nil]
  exact List.take_of_length_le (by rw [flatX_len hdC 4 hdC_len, h]; exact Nat.le_refl _)

set_option maxHeartbeats 1000000 in
theorem szCommandS_s (A : Option Addr) (n c : Nat) (its : List Ct) (left : Int) (w : World) (h : RdS w (sgCS A n its)) (hn : n ≤ 9223372036854775807) (hi : ∀ t ∈ its, t.n ≤ 9223372036854775807) (hl : 0 ≤ left) (hl' : left ≤ 1000000000000) :
    Calls Tryd.prog 6 #[.slice A n c, .int .i64 left] w fun e w' => e = .returned (.int .i64 (szOf left (n + sumE its))) ∧ Below w.heap.size w w' := by
  have HL := Lib.hid (RdCS.len h)
  have H := Lib.hid h; have HI := Lib.hid hi; clear h hi
  by_cases g : left < (n : Int)
  · have HE := Lib.hid (show szOf left (n + sumE its) = -1 from szOf_neg' (by omega))
    have g' : left - (n : Int) < 0 := by omega
    go_enter Tryd.func6, Tryd.ntmps6
    go_wp2_with fail
    go_ret
    exact ⟨by rw [HE.out]; rfl, below_size⟩
  go_enter Tryd.func6, Tryd.ntmps6
  go_wp2_with fail
  go_loopw [1, 5] (fun lv iv wr => ∃ k : Nat, k ≤ n ∧ iv = .int .i64 k ∧ ∃ l : Int, lv = .int .i64 l ∧ 0 ≤ l ∧ l ≤ left ∧ Hid (l = left - n - (sumE (its.take k) : Nat)) ∧ Below w.heap.size w wr) (fun _ iv _ => n - (intOf iv).toNat)
  case atStart => exact ⟨0, by omega, rfl, left - n, rfl, by omega, by omega, by simp [Hid, sumE], below_size⟩
  case round =>
    obtain ⟨k, hk, rfl, l, rfl, hl0, hl1, hr, hb⟩ := hrel
    have HB := Lib.hid hb
    by_cases hlt : k < n
    · obtain ⟨ad, t, rfl, hab, ht, hc0, hc1, hc2, hc3, hrd⟩ := RdCS.at_ (H.out.below hb) hlt
      have hti := HI.out t (List.mem_of_getElem? ht)
      have HS := Lib.hid (sumE_take ht)
      have HT := Lib.hid (sumE_le (ps := its) (k := k + 1))
      clear ht hrd hb
      go_wp2_with fail
      refine (szCommand_c t.kd t.vr t.ln t.A t.n t.c t.xs _ _ hti (by omega) (by omega)).mono ?_
      rintro e w1 ⟨rfl, hb1⟩
      have T := Lib.hid (below_chain HB.out HB.out.size hb1); clear hb1
      by_cases g2 : l < (t.n : Int)
      · have HE := Lib.hid (show szOf left (n + sumE its) = -1 from szOf_neg' (by have h1 := hr.out; have h2 := HS.out; have h3 := HT.out; omega))
        rw [szOf_neg' g2]
        go_wp2_with fail
        go_ret
        exact ⟨by rw [HE.out]; rfl, T.out⟩
      · rw [szOf_pos' (by omega)]
        have HR := Lib.hid (show l - (t.n : Int) = left - n - (sumE (its.take (k + 1)) : Nat) by have h1 := hr.out; have h2 := HS.out; omega)
        clear hr
        go_wp2_with fail
        go_roundw
        case rel => exact ⟨k + 1, by omega, by go_num, l - t.n, rfl, by omega, by omega, HR.out, T.out⟩
        case measure => simp [intOf]; omega
    · have HE := Lib.hid (show szOf left (n + sumE its) = l by
        have h1 := hr.out
        rw [List.take_of_length_le (by rw [HL.out]; omega)] at h1
        rw [szOf_pos' (by omega)]; omega)
      clear hb hr
      go_wp2_with fail
      go_ret
      exact ⟨by rw [HE.out]; rfl, HB.out⟩
theorem info_Command : (Tryd.prog.info? 42).map (fun i => (i.zero, i.size, i.bytes)) = some (some (.agg #[.int .i64 0, .int .i64 0, .int .i64 0, .slice none 0 0]), 4, 48) := by kernel_rfl
theorem run_mkC (n : Nat) (hn : n ≤ 1000000000) (w : World) : (Instr.makeSlice 25 (.int .i64 (n : Int)) (.int .i64 (n : Int))).run Tryd.prog w = .ok (.slice (some ⟨w.heap.size, 0, none⟩) n n) (w.alloc (.cells (fillC [] n) 42)) := by
  obtain ⟨i, hi0, hi1⟩ := Option.map_eq_some_iff.1 info_Command
  simp only [Prod.mk.injEq] at hi1
  obtain ⟨h1, h2, h3⟩ := hi1
  have hb' : (i.bytes : Int) * (n : Int) ≤ 281474976710656 := by rw [h3]; omega
  have hr := run_make (P := Tryd.prog) w 25 42 i _ Tryd.underlying25 hi0 h1 .i64 .i64 n n (by omega) (by omega) hb' (by omega)
  simp only [Int.toNat_natCast, h2] at hr
  rw [← fillC_new]
  exact hr
set_option maxHeartbeats 2000000 in
theorem toCommandS_s (A : Option Addr) (n c : Nat) (its : List Ct) (w : World) (h : RdS w (sgCS A n its)) (hn : n ≤ 1000000000) (hi : ∀ t ∈ its, t.n ≤ 1000000000) :
    Calls Tryd.prog 8 #[.slice A n c] w fun e w' => ∃ g its', e = .returned (.slice (some ⟨g, 0, none⟩) n n) ∧ (its'.map datC = its.map datC ∧ ∀ t ∈ its', t.n ≤ t.c) ∧ WrS w' w.heap.size w'.heap.size (sgCS (some ⟨g, 0, none⟩) n its') ∧ Below w.heap.size w w' := by
  have HL := Lib.hid (RdCS.len h)
  have H := Lib.hid h; have HI := Lib.hid hi; clear h hi
  have hmk := run_mkC n hn
  go_enter Tryd.func8, Tryd.ntmps8
  go_wp2
  clear hmk
  go_loopw [4] (fun iv wr => ∃ (k : Nat) (js : List Ct), k ≤ n ∧ iv = .int .i64 k ∧ Hid (js.length = k) ∧ Hid (js.map datC = (its.take k).map datC ∧ ∀ t ∈ js, t.n ≤ t.c) ∧ Blk wr w.heap.size 42 (fillC js (n - k)) ∧ WrS wr (w.heap.size + 1) wr.heap.size (js.map bodyC) ∧ Below w.heap.size w wr) (fun iv _ => n - (intOf iv).toNat)
  case atStart => exact ⟨0, [], by omega, rfl, rfl, ⟨rfl, fun t ht => by cases ht⟩, Blk.new w 42 (fillC [] n), WrS.nil, below_size.alloc (Nat.le_refl _) _⟩
  case round =>
    obtain ⟨k, js, hk, rfl, hjl, hjx, hblk, hws, hb⟩ := hrel
    have HB := Lib.hid hblk; have HW := Lib.hid hws; have Hb := Lib.hid hb
    have hlt0 := hblk.lt
    by_cases hlt : k < n
    · obtain ⟨ad, t, rfl, hab, ht, hc0, hc1, hc2, hc3, hrd⟩ := RdCS.at_ (H.out.below hb) hlt
      have hti := HI.out t (List.mem_of_getElem? ht)
      have HT := Lib.hid ht; have HR := Lib.hid hrd
      clear ht hrd hblk hws hb
      go_wp2_with fail
      refine (toCommand_c t.kd t.vr t.ln t.A t.n t.c t.xs _ HR.out hti).mono ?_
      rintro e w1 ⟨g, rfl, hw, hb1⟩
      obtain ⟨m, hm⟩ : ∃ m, n - k = m + 1 := ⟨n - k - 1, by omega⟩
      have hN := HB.out.keep hb1
      rw [hm] at hN
      have d0 := hN.cell (k * 4); have f0 := hN.frozen (k * 4)
      have d1 := hN.cell (k * 4 + 1); have f1 := hN.frozen (k * 4 + 1)
      have d2 := hN.cell (k * 4 + 2); have f2 := hN.frozen (k * 4 + 2)
      have d3 := hN.cell (k * 4 + 3); have f3 := hN.frozen (k * 4 + 3)
      rw [show k * 4 = k * 4 + 0 from rfl, fillC_at hjl.out m 0 (by omega)] at d0
      rw [fillC_at hjl.out m 1 (by omega)] at d1
      rw [fillC_at hjl.out m 2 (by omega)] at d2
      rw [fillC_at hjl.out m 3 (by omega)] at d3
      simp only [z4C, Nat.add_zero, List.getElem?_cons_zero, List.getElem?_cons_succ] at d0 d1 d2 d3
      have N := Lib.hid hN
      have Q := Lib.hid ((HW.out.below hb1).append hw (by omega) hb1.size)
      have T := Lib.hid (below_chain Hb.out Hb.out.size hb1)
      have HM := Lib.hid hm
      clear hN hw hb1 hm
      go_wp2
      go_roundw
      case rel =>
        refine ⟨k + 1, js ++ [⟨t.kd, t.vr, t.ln, some ⟨g, 0, none⟩, t.n, t.n, t.xs⟩], by omega, by go_num, by unfold Hid; rw [List.length_append, hjl.out]; rfl, ⟨by rw [take_at HT.out]; simp [hjx.out.1, datC], fun u hu => by
          rcases List.mem_append.1 hu with hu | hu
          · exact hjx.out.2 u hu
          · rw [List.mem_singleton] at hu; subst hu; exact Nat.le_refl _⟩, ?_, ?_, (by have hzz := (T.out).size; repeat' (first | (with_reducible exact T.out) | (with_reducible refine Below.alloc ?_ ?_ _) | (with_reducible refine Below.setCell ?_ ?_ _) | (with_reducible refine below_drew ?_) | omega | (simp; done) | (simp; omega)))⟩
        · have h2 := (((N.out.set_ (k * 4) (i64 t.kd)).set_ (k * 4 + 1) (i64 t.vr)).set_ (k * 4 + 2) (i64 t.ln)).set_ (k * 4 + 3) (.slice (some ⟨g, 0, none⟩) t.n t.n)
          rw [show n - (k + 1) = m by have := HM.out; omega, ← fillC_set hjl.out m ⟨t.kd, t.vr, t.ln, some ⟨g, 0, none⟩, t.n, t.n, t.xs⟩]
          exact h2
        · rw [List.map_append]
          have h3 := (((Q.out.set_far (p := ⟨w.heap.size, k * 4, none⟩) (.inl (by simp)) (i64 t.kd)).set_far (p := ⟨w.heap.size, k * 4 + 1, none⟩) (.inl (by simp)) (i64 t.vr)).set_far (p := ⟨w.heap.size, k * 4 + 2, none⟩) (.inl (by simp)) (i64 t.ln)).set_far (p := ⟨w.heap.size, k * 4 + 3, none⟩) (.inl (by simp)) (.slice (some ⟨g, 0, none⟩) t.n t.n)
          simpa [bodyC, sgCommand] using h3
      case measure => simp [intOf]; omega
    · have HK := Lib.hid (show k = n by omega)
      clear hblk hws hb
      go_wp2
      go_ret
      refine ⟨w.heap.size, js, rfl, ?_, ?_, Hb.out⟩
      · exact ⟨by rw [hjx.out.1, List.take_of_length_le (by rw [HL.out]; omega)], hjx.out.2⟩
      · have hb := HB.out
        rw [show n - k = 0 by omega] at hb
        refine WrS.cons1 (mid := w.heap.size + 1) (hb.wr (Nat.le_refl _) (by omega) (fillC_all _ _ (by rw [hjl.out, HK.out])) ?_) HW.out (by omega) (by have := hb.lt; omega)
        simp only [fillC, List.replicate_zero, List.flatten_nil, List.append_nil, List.size_toArray, flatX_len hdC 4 hdC_len, hjl.out, HK.out]; exact Nat.le_refl _
set_option maxHeartbeats 1000000 in
theorem eqCommandS_t (A : Option Addr) (n c : Nat) (ps : List Ct) (A' : Option Addr) (n' c' : Nat) (ps' : List Ct) (w : World) (h : RdS w (sgCS A n ps)) (h' : RdS w (sgCS A' n' ps')) (hn : n ≤ 1000000000) (hi0 : ∀ t ∈ ps, t.n ≤ 1000000000) (he0 : ps.map datC = ps'.map datC) :
    Calls Tryd.prog 10 #[.slice A n c, .slice A' n' c'] w fun e w' => e = .returned (.bool true) ∧ Below w.heap.size w w' := by
  have hnn : n' = n := by have := congrArg List.length he0; simp at this; rw [← RdCS.len h, ← RdCS.len h', this]
  subst hnn
  have H := Lib.hid h; have H' := Lib.hid h'; have HI := Lib.hid hi0; have HE := Lib.hid he0; clear h h' hi0 he0
  have hne : ((n' : Int) != (n' : Int)) = false := by simp
  go_enter Tryd.func10, Tryd.ntmps10
  go_wp2_with fail
  go_loopw [5] (fun i wr => ∃ k : Nat, k ≤ n' ∧ i = .int .i64 k ∧ Below w.heap.size w wr) (fun i _ => n' - (intOf i).toNat)
  case atStart => exact ⟨0, by omega, rfl, below_size⟩
  case round =>
    obtain ⟨k, hk, rfl, hb⟩ := hrel
    have HB := Lib.hid hb
    by_cases hlt : k < n'
    · obtain ⟨ad, t, rfl, hab, ht, hc0, hc1, hc2, hc3, hrd⟩ := RdCS.at_ (H.out.below hb) hlt
      obtain ⟨ad', t', rfl, hab', ht', hd0, hd1, hd2, hd3, hrd'⟩ := RdCS.at_ (H'.out.below hb) hlt
      have hxx : datC t = datC t' := by
        have := congrArg (fun l => l[k]?) HE.out
        simpa [ht, ht'] using this
      obtain ⟨s1, a1, l1, B1, m1, c1, xs1⟩ := t
      obtain ⟨s2, a2, l2, B2, m2, c2, xs2⟩ := t'
      simp only [datC, Prod.mk.injEq] at hxx
      obtain ⟨rfl, rfl, rfl, rfl⟩ := hxx
      have hti := HI.out _ (List.mem_of_getElem? ht)
      have R := Lib.hid hrd; have R' := Lib.hid hrd'
      clear ht ht' hb hrd hrd'
      have x0 := Ext.cell hc0; have x1 := Ext.cell hc1; have x2 := Ext.cell hc2; have x3 := Ext.cell hc3; have y0 := Ext.cell hd0; have y1 := Ext.cell hd1; have y2 := Ext.cell hd2; have y3 := Ext.cell hd3
      go_wp2_with fail
      refine Mix.wp_region_mix [0, 0, 0, 3, 0, 0, 0, 3, 1, 0] (fun w' => ∃ x : Ext wr, w' = x.w) (by kernel_rfl) (by kernel_rfl) (InExt.drew _) ?_
      repeat (first | (refine Mix.wpMix_read (by rfl) ?_; go_big_quiet_step (fail); refine wpQuiet_nil ?_) | (refine Mix.wpMix_pure (by rfl) ?_; go_big_quiet_step (fail); refine wpQuiet_nil ?_))
      refine Mix.wpMix_chg (by rfl) (fun K hK => ?_)
      go_wp2_with fail
      refine (eqCommand_t _ _ _ B1 m1 c1 xs1 B2 m2 c2 _ (by exact R.out.drew) (by exact R'.out.drew) hti).mono ?_
      rintro e w1 ⟨rfl, hb⟩
      have em := below_of_drew hb
      go_wp2_with fail
      refine hK _ _ ⟨⟨_, em⟩, rfl⟩ ?_
      clear hK K
      repeat (first | (refine Mix.wpMix_read (by rfl) ?_; go_big_quiet_step (fail); refine wpQuiet_nil ?_) | (refine Mix.wpMix_pure (by rfl) ?_; go_big_quiet_step (fail); refine wpQuiet_nil ?_))
      (refine Mix.wpMix_nil ?_; try simp only [Exit.then])
      go_wp2_with fail
      go_roundw
      case rel => exact ⟨k + 1, by omega, by go_num, below_chain HB.out HB.out.size em⟩
      case measure => simp [intOf]; omega
    · clear hb
      go_wp2_with fail
      go_ret
      exact ⟨rfl, HB.out⟩
set_option maxHeartbeats 2000000 in
theorem markCommandS_c (A : Option Addr) (n c : Nat) (ps : List Ct) (lo hi : Nat) (k0 : Int) (w : World) (h : WrS w lo hi (sgCS A n ps)) (hn : n ≤ 1000000000) (hi0 : ∀ t ∈ ps, t.n ≤ 1000000000) (hs0 : sumC ps ≤ 1000000000) (h0 : 0 ≤ k0) (h1 : k0 ≤ 10000000000) :
    Calls Tryd.prog 13 #[.slice A n c, .int .i64 k0] w fun e w' => e = .returned (.int .i64 (k0 + (sumC ps : Nat))) ∧ WrS w' lo hi (sgCS A n (markC ps k0)) ∧ KeepR lo hi w w' := by
  have HL := Lib.hid (RdCS.len h.rd)
  have H := Lib.hid h; have HI := Lib.hid hi0; clear h hi0
  go_enter Tryd.func13, Tryd.ntmps13
  go_wp2_with fail
  go_loopw [1, 5] (fun kv iv wr => ∃ (k : Nat) (kk : Int), k ≤ n ∧ iv = .int .i64 k ∧ kv = .int .i64 kk ∧ 0 ≤ kk ∧ kk ≤ k0 + 1000000000 ∧ Hid (kk = k0 + (sumC (ps.take k) : Nat)) ∧ Hid (WrS wr lo hi (sgCS A n (markC (ps.take k) k0 ++ ps.drop k))) ∧ Hid (KeepR lo hi w wr)) (fun _ iv _ => n - (intOf iv).toNat)
  case atStart => exact ⟨0, k0, by omega, rfl, rfl, h0, by omega, by simp [Hid, sumC], by simpa [Hid, markC] using H.out, KeepR.refl _ _ _⟩
  case round =>
    obtain ⟨k, kk, hk, rfl, rfl, hkk0, hkk1, hr, hW, hK⟩ := hrel
    by_cases hlt : k < n
    · obtain ⟨ad, t, rfl, hab, ht0, hc0, hc1, hc2, hc3, hrd⟩ := RdCS.at_ hW.out.rd hlt
      have hml : (markC (ps.take k) k0).length = k := by rw [markC_len, List.length_take, HL.out]; omega
      have ht : ps[k]? = some t := by rw [List.getElem?_append_right (by omega), hml, Nat.sub_self, List.getElem?_drop] at ht0; exact ht0
      have hti := HI.out _ (List.mem_of_getElem? ht)
      have HS := Lib.hid (sumC_take ht); have HSL := Lib.hid (sumC_le (ps := ps) (k := k + 1))
      have hd := drop_at ht
      have hW0 : WrS wr lo hi ([] ++ ⟨some ad, n * 4, (markC (ps.take k) k0 ++ t :: ps.drop (k + 1)).flatMap hdC⟩ :: (markC (ps.take k) k0 ++ t :: ps.drop (k + 1)).map bodyC) := by have := hW.out; rw [hd] at this; exact this
      obtain ⟨hW1, hK1⟩ := hW0.set_at rfl (k := k * 4) (by simp; omega) (i64 kk)
      have hf0 : wr.frozen? (ad.add (k * 4)) = false := by
        obtain ⟨a, v, e, _, _, _, _, _, hf⟩ := (WrS.head (show WrS wr lo hi (_ :: _) from hW0)).at_ (k := k * 4) (by simp; omega)
        injection e with e; subst e; exact hf
      rw [flatC_set0 hml kk] at hW1
      obtain ⟨hW2, hK2⟩ := hW1.set_at rfl (k := k * 4 + 1) (by simp; omega) (i64 (kk + 1))
      have hf1 : (wr.setCell (ad.add (k * 4)) (i64 kk)).frozen? (ad.add (k * 4 + 1)) = false := by
        obtain ⟨a, v, e, _, _, _, _, _, hf⟩ := (WrS.head (show WrS _ lo hi (_ :: _) from hW1)).at_ (k := k * 4 + 1) (by simp; omega)
        injection e with e; subst e; exact hf
      rw [flatC_set1 hml (kk + 1)] at hW2
      obtain ⟨hW3, hK3⟩ := hW2.set_at rfl (k := k * 4 + 2) (by simp; omega) (i64 (kk + 1 + 1))
      have hf2 : ((wr.setCell (ad.add (k * 4)) (i64 kk)).setCell (ad.add (k * 4 + 1)) (i64 (kk + 1))).frozen? (ad.add (k * 4 + 2)) = false := by
        obtain ⟨a, v, e, _, _, _, _, _, hf⟩ := (WrS.head (show WrS _ lo hi (_ :: _) from hW2)).at_ (k := k * 4 + 2) (by simp; omega)
        injection e with e; subst e; exact hf
      have hc1' : (wr.setCell (ad.add (k * 4)) (i64 kk)).cell? (ad.add (k * 4 + 1)) = some (i64 t.vr) := by
        rw [World.cell?_setCell_other _ _ _ _ (fun e => by have := congrArg Addr.off e; rw [off_add, off_add] at this; omega), ← next_off ad (k * 4) 0]; exact hc1
      have hc2' : ((wr.setCell (ad.add (k * 4)) (i64 kk)).setCell (ad.add (k * 4 + 1)) (i64 (kk + 1))).cell? (ad.add (k * 4 + 2)) = some (i64 t.ln) := by
        rw [World.cell?_setCell_other _ _ _ _ (fun e => by have := congrArg Addr.off e; rw [off_add, off_add] at this; omega), World.cell?_setCell_other _ _ _ _ (fun e => by have := congrArg Addr.off e; rw [off_add, off_add] at this; omega), ← next_off ad (k * 4) 1]; exact hc2
      have hc3' : (((wr.setCell (ad.add (k * 4)) (i64 kk)).setCell (ad.add (k * 4 + 1)) (i64 (kk + 1))).setCell (ad.add (k * 4 + 2)) (i64 (kk + 1 + 1))).cell? (ad.add (k * 4 + 3)) = some (.slice t.A t.n t.c) := by
        rw [World.cell?_setCell_other _ _ _ _ (fun e => by have := congrArg Addr.off e; rw [off_add, off_add] at this; omega), World.cell?_setCell_other _ _ _ _ (fun e => by have := congrArg Addr.off e; rw [off_add, off_add] at this; omega), World.cell?_setCell_other _ _ _ _ (fun e => by have := congrArg Addr.off e; rw [off_add, off_add] at this; omega), ← next_off ad (k * 4) 2]; exact hc3
      rw [flatC_set2 hml (kk + 1 + 1)] at hW3
      have a1 : (⟨(ad.add (k * 4)).block, (ad.add (k * 4)).off + 1, none⟩ : Addr) = ad.add (k * 4 + 1) := next_off ad (k * 4) 0
      have a2 : (⟨(ad.add (k * 4)).block, (ad.add (k * 4)).off + 2, none⟩ : Addr) = ad.add (k * 4 + 2) := next_off ad (k * 4) 1
      have a3 : (⟨(ad.add (k * 4)).block, (ad.add (k * 4)).off + 3, none⟩ : Addr) = ad.add (k * 4 + 3) := next_off ad (k * 4) 2
      rw [← a1] at hf1 hc1' hc2' hf2 hc3' hW3 hK2 hK3
      rw [← a2] at hc2' hf2 hc3' hW3 hK3
      rw [← a3] at hc3'
      have W2 := Lib.hid hW3; have K2 := Lib.hid (hK.out.trans (hK1.trans (hK2.trans hK3)))
      have HT := Lib.hid ht; have HML := Lib.hid hml
      clear hW0 hW1 hW2 hW3 hK1 hK2 hK3 hrd ht ht0 hd hc1 hc2 hc3 a1 a2 a3 hml
      go_wp2_with fail
      have hW3 := W2.out
      obtain ⟨tkd, tvr, tln, tA, tn, tc, txs⟩ := t
      simp only at hti
      rw [List.map_append, List.map_cons] at hW3
      have hW3' : WrS _ lo hi ((⟨some ad, n * 4, (markC (ps.take k) k0 ++ ⟨kk, kk + 1, kk + 1 + 1, tA, tn, tc, txs⟩ :: ps.drop (k + 1)).flatMap hdC⟩ :: (markC (ps.take k) k0).map bodyC) ++ sgX enc2 2 tA tn txs :: (ps.drop (k + 1)).map bodyC) := hW3
      obtain ⟨l, r, hw, hkp, hset⟩ := hW3'.range
      have HSET := Lib.hid hset; have HKP := Lib.hid hkp
      clear hset hkp hW3 hW3'
      refine (markExprS_c tA tn tc l r _ _ _ hw (by omega) (by omega) (by omega)).mono ?_
      rintro e w1 ⟨rfl, hw1, hk1⟩
      have W4 := Lib.hid (HSET.out _ _ hk1 hw1); have K4 := Lib.hid (K2.out.trans (HKP.out _ hk1))
      clear HSET HKP hw hw1 hk1 hf0 hf1 hf2 hc1' hc2' hc3' hc0
      go_wp2_with fail
      go_roundw
      case rel =>
        refine ⟨k + 1, kk + 1 + 1 + 1 + (tn * 2 : Nat), by omega, by go_num, by go_num, by omega, by have h1 := hr.out; have h2 := HS.out; have h3 := HSL.out; (try simp only at h2); omega, by have h1 := hr.out; have h2 := HS.out; (try simp only at h2); unfold Hid; omega, ?_, K4.out⟩
        unfold Hid
        rw [take_at HT.out, markC_app, ← hr.out]
        have := W4.out
        rw [← markE_flat] at this
        simpa [sgCS, markC, bodyC, sgX, hdC] using this
      case measure => simp [intOf]; omega
    · have HK := Lib.hid (show k = n by omega)
      go_wp2_with fail
      go_ret
      have e1 : ps.take k = ps := List.take_of_length_le (by rw [HL.out, HK.out]; exact Nat.le_refl _)
      have e2 : ps.drop k = [] := List.drop_eq_nil_of_le (by rw [HL.out, HK.out]; exact Nat.le_refl _)
      refine ⟨by rw [hr.out, e1]; rfl, ?_, hK.out⟩
      have := hW.out
      rwa [e1, e2, List.append_nil] at this
set_option maxHeartbeats 2000000 in
theorem heldCommandS_c (A : Option Addr) (n c : Nat) (ps : List Ct) (k0 : Int) (w : World) (h : RdS w (sgCS A n (markC ps k0))) (hn : n ≤ 1000000000) (hi0 : ∀ t ∈ ps, t.n ≤ 1000000000) (hs0 : sumC ps ≤ 1000000000) (h0 : 0 ≤ k0) (h1 : k0 ≤ 10000000000) :
    Calls Tryd.prog 14 #[.slice A n c, .int .i64 k0] w fun e w' => e = .returned (.int .i64 (k0 + (sumC ps : Nat))) ∧ Below w.heap.size w w' := by
  have HL := Lib.hid (show ps.length = n by rw [← RdCS.len h, markC_len])
  have H := Lib.hid h; have HI := Lib.hid hi0; clear h hi0
  go_enter Tryd.func14, Tryd.ntmps14
  go_wp2_with fail
  go_loopw [1, 5] (fun kv iv wr => ∃ (k : Nat) (kk : Int), k ≤ n ∧ iv = .int .i64 k ∧ kv = .int .i64 kk ∧ 0 ≤ kk ∧ kk ≤ k0 + 1000000000 ∧ Hid (kk = k0 + (sumC (ps.take k) : Nat)) ∧ Below w.heap.size w wr) (fun _ iv _ => n - (intOf iv).toNat)
  case atStart => exact ⟨0, k0, by omega, rfl, rfl, h0, by omega, by simp [Hid, sumC], below_size⟩
  case round =>
    obtain ⟨k, kk, hk, rfl, rfl, hkk0, hkk1, hr, hb⟩ := hrel
    have HB := Lib.hid hb
    by_cases hlt : k < n
    · obtain ⟨ad, t0, rfl, hab, ht0, hc0, hc1, hc2, hc3, hrd⟩ := RdCS.at_ (H.out.below hb) hlt
      have hl : k < ps.length := by rw [HL.out]; exact hlt
      have ht : ps[k]? = some ps[k] := List.getElem?_eq_getElem hl
      rw [markC_at ht, ← hr.out] at ht0
      injection ht0 with ht0; subst ht0
      have hti := HI.out _ (List.mem_of_getElem? ht)
      have HS := Lib.hid (sumC_take ht); have HSL := Lib.hid (sumC_le (ps := ps) (k := k + 1))
      generalize ps[k] = t at *
      obtain ⟨tkd, tvr, tln, tA, tn, tc, txs⟩ := t
      simp only at hc0 hc1 hc2 hc3 hrd hti
      have hrd2 : RdS wr [⟨tA, tn * 2, (marks (kk + 1 + 1 + 1) (tn * 2)).map i64⟩] := by
        have := hrd
        simp only [sgCommand, sgX, markE_flat] at this
        exact this
      have R := Lib.hid hrd2.head
      have g0 : (kk != kk) = false := by simp
      have g1 : (kk + 1 != kk + 1) = false := by simp
      have g2 : (kk + 1 + 1 != kk + 1 + 1) = false := by simp
      clear ht hb hrd hrd2
      go_wp2_with fail
      refine (heldExprS_c tA tn tc _ _ (by exact R.out) hti (by omega) (by omega)).mono ?_
      rintro e w1 ⟨rfl, hb⟩
      have T := Lib.hid (below_chain HB.out HB.out.size hb); clear hb
      go_wp2_with fail
      go_roundw
      case rel => exact ⟨k + 1, kk + 1 + 1 + 1 + (tn * 2 : Nat), by omega, by go_num, by go_num, by omega, by have h1 := hr.out; have h2 := HS.out; have h3 := HSL.out; (try simp only at h2); omega, by have h1 := hr.out; have h2 := HS.out; (try simp only at h2); unfold Hid; omega, T.out⟩
      case measure => simp [intOf]; omega
    · have e1 := Lib.hid (show ps.take k = ps from List.take_of_length_le (by rw [HL.out]; omega))
      clear hb
      go_wp2_with fail
      go_ret
      exact ⟨by rw [hr.out, e1.out]; rfl, HB.out⟩
theorem szCommandS_c (A : Option Addr) (n c : Nat) (ps : List Ct) (left : Int) (w : World) (h : RdS w (sgCS A n ps)) (hn0 : n ≤ 9223372036854775807) (hi0 : ∀ t ∈ ps, t.n ≤ 9223372036854775807) (hl : 0 ≤ left) (hl' : left ≤ 1000000000000) :
    Calls Tryd.prog 6 #[.slice A n c, .int .i64 left] w fun e w' => e = .returned (.int .i64 (szOf left (n + sumE ps))) ∧ Below w.heap.size w w' := szCommandS_s A n c ps left w h hn0 hi0 hl hl'
theorem toCommandS_c (A : Option Addr) (n c : Nat) (ps : List Ct) (w : World) (h : RdS w (sgCS A n ps)) (hn : n ≤ 1000000000) (hi0 : ∀ t ∈ ps, t.n ≤ 1000000000) :
    Calls Tryd.prog 8 #[.slice A n c] w fun e w' => ∃ g its', e = .returned (.slice (some ⟨g, 0, none⟩) n n) ∧ (its'.map datC = ps.map datC ∧ ∀ t ∈ its', t.n ≤ t.c) ∧ WrS w' w.heap.size w'.heap.size (sgCS (some ⟨g, 0, none⟩) n its') ∧ Below w.heap.size w w' := toCommandS_s A n c ps w h hn hi0
end Go.Proofs.YtkchgjegdmcnaaaDoor
