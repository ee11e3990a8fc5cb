/-
  Parts of the proof, one behind the other: contracts of the functions that the law reaches, and plain laws.
-/
import Derived.Test.YtebjpmmgdkepjaaGreatDoorLot03
import Derived.Test.YtebjpmmgdkepjaaGreatDoorLot04
import Derived.Test.YtebjpmmgdkepjaaGreatDoorLot16
/-
  The readers of recursive functions in plain Lean: the program's, bounds, and that both answer the same. Nothing of the program.
-/
namespace Go.Proofs.YtebjpmmgdkepjaaGreatDoor
open Go.RowKit
open FTr

/-! ### the program's reader -/
abbrev RdSt := List UInt8 × Bool
def tkB (p s : List UInt8) : Bool := p.isPrefixOf s
def tkR (p s : List UInt8) : List UInt8 := if tkB p s = true then s.drop p.length else s
def ndF (p : List UInt8) (st : RdSt) : RdSt := (tkR p st.1, !tkB p st.1 || st.2)
def dgF (st : RdSt) : Int × RdSt := match st.1 with
  | [] => (0, ([], true))
  | c :: s => if 48 ≤ c.toNat ∧ c.toNat ≤ 57 then ((c.toNat : Int) - 48, (s, st.2)) else (0, (c :: s, true))
def ixL (g : RdSt → List Nd3 × RdSt) : Nat → List (List Nd3) → RdSt → List (List Nd3) × RdSt
  | 0, ps, st => (ps, (st.1, true))
  | F + 1, ps, st => if st.2 = false ∧ tkB [44] st.1 = true then ixL g F (ps ++ [(g (st.1.drop 1, false)).1]) (g (st.1.drop 1, false)).2 else (ps, st)
def ixP (g : RdSt → List Nd3 × RdSt) (st : RdSt) : List (List Nd3) × RdSt :=
  ixL g ((g (ndF [59] (g st).2)).2.1.length + 1) [(g st).1, (g (ndF [59] (g st).2)).1] (g (ndF [59] (g st).2)).2
def ixC0 (g : RdSt → List Nd3 × RdSt) (st : RdSt) : List Nd3 × RdSt :=
  (((3, hdA (((ixP g st).1).getD 1 []), ((ixP g st).1.length : Int) - 1) : Nd3) :: (ixP g st).1.flatten, ndF [41] (ixP g st).2)
def ixR0 (g : RdSt → List Nd3 × RdSt) (st : RdSt) : List Nd3 × RdSt :=
  (((4, hdA (g st).1 + 1, 0) : Nd3) :: ((g st).1 ++ (g (ndF [59] (g st).2)).1), ndF [41] (g (ndF [59] (g st).2)).2)
def ixM0 (g : RdSt → List Nd3 × RdSt) (st : RdSt) : List Nd3 × RdSt :=
  (((5, hdA (g st).1 - 1, 0) : Nd3) :: (g st).1, ndF [41] (g st).2)
def ixZ0 (st : RdSt) : List Nd3 × RdSt := ([(0, (dgF st).1, 0)], (dgF st).2)
def ixK0 (st : RdSt) : List Nd3 × RdSt := ([(2, (dgF st).1, (dgF (ndF [46] (dgF st).2)).1)], (dgF (ndF [46] (dgF st).2)).2)
def ixF : Nat → RdSt → List Nd3 × RdSt
  | 0, st => ([(0, 0, 0)], (st.1, true))
  | N + 1, st => if st.2 = true then ([(0, 0, 0)], st)
      else if tkB [90] st.1 = true then ixZ0 (st.1.drop 1, st.2)
      else if tkB [83] st.1 = true then ([(1, 1, 0)], (st.1.drop 1, st.2))
      else if tkB [80] st.1 = true then ixK0 (st.1.drop 1, st.2)
      else if tkB [67, 40] st.1 = true then ixC0 (ixF N) (st.1.drop 2, st.2)
      else if tkB [82, 40] st.1 = true then ixR0 (ixF N) (st.1.drop 2, st.2)
      else if tkB [77, 40] st.1 = true then ixM0 (ixF N) (st.1.drop 2, st.2)
      else ([(0, 0, 0)], (st.1, true))

theorem hdA_cons (x : Nd3) (l : List Nd3) : hdA (x :: l) = x.2.1 := rfl
theorem tkR_len (p s : List UInt8) : (tkR p s).length ≤ s.length := by
  unfold tkR; split
  · rw [List.length_drop]; omega
  · omega
theorem tkB_len {p s : List UInt8} (h : tkB p s = true) : p.length ≤ s.length := by
  unfold tkB at h
  have := List.isPrefixOf_iff_prefix.1 h
  exact this.length_le
theorem tkB_one {c : UInt8} {s : List UInt8} (h : tkB [c] s = true) : s = c :: s.drop 1 := by
  cases s with
  | nil => cases h
  | cons d s => simp [tkB, List.isPrefixOf] at h; rw [h]; rfl
theorem ndF_len (p : List UInt8) (st : RdSt) : (ndF p st).1.length ≤ st.1.length := tkR_len p st.1
theorem dgF_len (st : RdSt) : (dgF st).2.1.length ≤ st.1.length := by
  unfold dgF; split
  · simp
  · rename_i c s h; rw [h]; split <;> simp
theorem dgF_val (st : RdSt) : 0 ≤ (dgF st).1 ∧ (dgF st).1 ≤ 9 := by
  unfold dgF; split
  · simp
  · split
    · simp; omega
    · simp
/-- how great a node's numbers are -/
def bdN (B : Nat) (x : Nd3) : Prop := (0 ≤ x.1 ∧ x.1 ≤ 5) ∧ (-(B : Int) ≤ x.2.1 ∧ x.2.1 ≤ B) ∧ (-(B : Int) ≤ x.2.2 ∧ x.2.2 ≤ B)
theorem bdN_mono {B C : Nat} {x : Nd3} (h : bdN B x) (hc : B ≤ C) : bdN C x := by unfold bdN at *; omega
/-- what is known of what a reader gives back at a text -/
structure IxOk (B : Nat) (st : RdSt) (q : List Nd3 × RdSt) : Prop where
  pos : q.1 ≠ []
  len : q.1.length + q.2.1.length ≤ st.1.length + 1
  hd : -(B : Int) ≤ hdA q.1 ∧ hdA q.1 ≤ B
theorem IxOk.rest {B : Nat} {st : RdSt} {q : List Nd3 × RdSt} (h : IxOk B st q) : q.2.1.length ≤ st.1.length := by
  have := h.len; have := List.length_pos_iff.2 h.pos; omega
theorem IxOk.mono {B C : Nat} {st : RdSt} {q : List Nd3 × RdSt} (h : IxOk B st q) (hc : B ≤ C) : IxOk C st q := ⟨h.pos, h.len, by have := h.hd; omega⟩
structure IxLk (B : Nat) (n : Nat) (q : List (List Nd3) × RdSt) : Prop where
  pos : ∀ p ∈ q.1, p ≠ []
  len : q.1.flatten.length + q.2.1.length ≤ n
  two : 2 ≤ q.1.length
  hd : ∀ p ∈ q.1, -(B : Int) ≤ hdA p ∧ hdA p ≤ B
theorem flat_many : ∀ {ps : List (List Nd3)}, (∀ p ∈ ps, p ≠ []) → ps.length ≤ ps.flatten.length
  | [], _ => by simp
  | p :: ps, h => by
    have h1 := List.length_pos_iff.2 (h p (by simp))
    have h2 := flat_many fun q hq => h q (List.mem_cons_of_mem _ hq)
    rw [List.flatten_cons, List.length_append, List.length_cons]; omega
theorem ixL_ok {B : Nat} {g : RdSt → List Nd3 × RdSt} : ∀ {F : Nat} {ps : List (List Nd3)} {st : RdSt} {n : Nat}, (∀ t, t.1.length < st.1.length → IxOk B t (g t)) → IxLk B n (ps, st) → st.1.length < F → IxLk B n (ixL g F ps st)
  | 0, ps, st, n, _, _, hF => by omega
  | F + 1, ps, st, n, hg, h, hF => by
    rw [ixL]
    split
    · rename_i hc
      have h1 := tkB_len hc.2
      simp only [List.length_cons, List.length_nil] at h1
      have h2 := hg (st.1.drop 1, false) (by simp; omega)
      have h3 := h2.rest
      have h4 := h2.len
      have h5 := h.len
      simp only [List.length_drop] at h3 h4
      refine ixL_ok (fun t ht => hg t (by omega)) ⟨fun p hp => ?_, ?_, ?_, fun p hp => ?_⟩ (by omega)
      · rcases List.mem_append.1 hp with hp | hp
        · exact h.pos p hp
        · rw [List.mem_singleton] at hp; subst hp; exact h2.pos
      · simp only [List.flatten_append, List.length_append, List.flatten_cons, List.flatten_nil, List.append_nil] at h5 ⊢; omega
      · have h9 : 2 ≤ ps.length := h.two
        simp only [List.length_append, List.length_cons, List.length_nil]; omega
      · rcases List.mem_append.1 hp with hp | hp
        · exact h.hd p hp
        · rw [List.mem_singleton] at hp; subst hp; exact h2.hd
    · exact h
theorem ixP_ok {B : Nat} {g : RdSt → List Nd3 × RdSt} {st : RdSt} (hg : ∀ t, t.1.length ≤ st.1.length → IxOk B t (g t)) : IxLk B (st.1.length + 2) (ixP g st) := by
  have h1 := hg st (Nat.le_refl _)
  have h3 := h1.rest
  have h4 := ndF_len [59] (g st).2
  have h2 := hg (ndF [59] (g st).2) (by omega)
  have h5 := h2.rest
  have h6 := h1.len
  have h7 := h2.len
  rw [ixP]
  refine ixL_ok (fun t ht => hg t (by omega)) ⟨fun p hp => ?_, ?_, by simp, fun p hp => ?_⟩ (by omega)
  · simp only [List.mem_cons, List.not_mem_nil, or_false] at hp
    rcases hp with rfl | rfl
    · exact h1.pos
    · exact h2.pos
  · simp only [List.flatten_cons, List.flatten_nil, List.append_nil, List.length_append]; omega
  · simp only [List.mem_cons, List.not_mem_nil, or_false] at hp
    rcases hp with rfl | rfl
    · exact h1.hd
    · exact h2.hd
theorem ixF_ok : ∀ (N : Nat) (st : RdSt), IxOk (9 + N) st (ixF N st)
  | 0, st => ⟨by simp [ixF], by simp [ixF]; omega, by simp [ixF, hdA]⟩
  | N + 1, st => by
    have ih := fun t => (ixF_ok N t)
    rw [ixF]
    split
    · exact ⟨by simp, by simp; omega, by simp [hdA]; omega⟩
    split
    · rename_i _ hc
      have := tkB_len hc
      have h1 := dgF_len (st.1.drop 1, st.2)
      have h2 := dgF_val (st.1.drop 1, st.2)
      simp only [List.length_drop, List.length_cons, List.length_nil] at this h1
      exact ⟨by simp [ixZ0], by simp only [ixZ0, List.length_cons, List.length_nil]; omega, by simp only [ixZ0, hdA]; omega⟩
    split
    · exact ⟨by simp, by simp; omega, by simp [hdA]; omega⟩
    split
    · have h1 := dgF_len (st.1.drop 1, st.2)
      have h2 := dgF_val (st.1.drop 1, st.2)
      have h3 := ndF_len [46] (dgF (st.1.drop 1, st.2)).2
      have h4 := dgF_len (ndF [46] (dgF (st.1.drop 1, st.2)).2)
      simp only [List.length_drop] at h1
      exact ⟨by simp [ixK0], by simp only [ixK0, List.length_cons, List.length_nil]; omega, by simp only [ixK0, hdA]; omega⟩
    split
    · rename_i _ _ _ _ hc
      have := tkB_len hc
      have h1 := ixP_ok (B := 9 + N) (g := ixF N) (st := (st.1.drop 2, st.2)) fun t _ => ih t
      have h2 := ndF_len [41] (ixP (ixF N) (st.1.drop 2, st.2)).2
      have h3 := h1.len
      simp only [List.length_drop, List.length_cons, List.length_nil] at this h3
      refine ⟨by simp [ixC0], by simp only [ixC0, List.length_cons]; omega, ?_⟩
      simp only [ixC0]
      rw [hdA_cons]
      simp only
      have h4 := h1.hd (((ixP (ixF N) (st.1.drop 2, st.2)).1).getD 1 []) (by
        rw [List.getD_eq_getElem?_getD, List.getElem?_eq_getElem (by have := h1.two; omega)]
        exact List.getElem_mem _)
      omega
    split
    · rename_i _ _ _ _ _ hc
      have := tkB_len hc
      have h1 := ih (st.1.drop 2, st.2)
      have h2 := ih (ndF [59] (ixF N (st.1.drop 2, st.2)).2)
      have h3 := ndF_len [59] (ixF N (st.1.drop 2, st.2)).2
      have h4 := ndF_len [41] (ixF N (ndF [59] (ixF N (st.1.drop 2, st.2)).2)).2
      have h5 := h1.len; have h6 := h2.len; have h7 := h1.hd
      simp only [List.length_drop, List.length_cons, List.length_nil] at this h5
      exact ⟨by simp [ixR0], by simp only [ixR0, List.length_cons, List.length_append]; omega, by simp only [ixR0]; rw [hdA_cons]; simp only; omega⟩
    split
    · rename_i _ _ _ _ _ _ hc
      have := tkB_len hc
      have h1 := ih (st.1.drop 2, st.2)
      have h4 := ndF_len [41] (ixF N (st.1.drop 2, st.2)).2
      have h5 := h1.len; have h7 := h1.hd
      simp only [List.length_drop, List.length_cons, List.length_nil] at this h5
      exact ⟨by simp [ixM0], by simp only [ixM0, List.length_cons]; omega, by simp only [ixM0]; rw [hdA_cons]; simp only; omega⟩
    · exact ⟨by simp, by simp; omega, by simp [hdA]; omega⟩

/-! ### a function comes back from its text -/
theorem dgF_some {c : UInt8} {v : Int} {s : List UInt8} {b : Bool} (hc : (c.toNat : Int) = 48 + v) (hv : 0 ≤ v ∧ v ≤ 9) : dgF (c :: s, b) = (v, (s, b)) := by
  unfold dgF; simp only; rw [if_pos (by omega), Prod.mk.injEq]; exact ⟨by omega, rfl⟩
theorem ndF_some (c : UInt8) (s : List UInt8) (b : Bool) : ndF [c] (c :: s, b) = (s, b) := by simp [ndF, tkR, tkB, List.isPrefixOf]
theorem ixL_read {g : RdSt → List Nd3 × RdSt} : ∀ (us : List FTr) (F : Nat) (ps : List (List Nd3)) (r : List UInt8), (∀ v ∈ us, ∀ r, g (textT v ++ r, false) = (flat v, (r, false))) → us.length < F →
    ixL g F ps ((us.map fun u => 44 :: textT u).flatten ++ 41 :: r, false) = (ps ++ us.map flat, (41 :: r, false))
  | [], F, ps, r, hg, hF => by
    obtain ⟨F, rfl⟩ : ∃ F', F = F' + 1 := ⟨F - 1, by simp at hF; omega⟩
    rw [ixL, if_neg (by simp [tkB, List.isPrefixOf])]; simp
  | u :: us, F, ps, r, hg, hF => by
    obtain ⟨F, rfl⟩ : ∃ F', F = F' + 1 := ⟨F - 1, by simp at hF; omega⟩
    rw [List.length_cons] at hF
    have e : (((u :: us).map fun u => 44 :: textT u).flatten ++ 41 :: r) = 44 :: (textT u ++ ((us.map fun u => 44 :: textT u).flatten ++ 41 :: r)) := by simp
    rw [e, ixL, if_pos (by simp [tkB, List.isPrefixOf])]
    simp only [List.drop_succ_cons, List.drop_zero]
    rw [hg u (by simp), ixL_read us F _ r (fun v hv => hg v (List.mem_cons_of_mem _ hv)) (by omega)]
    simp
theorem join_flat : ∀ (u : List UInt8) (us : List (List UInt8)), Lib.join (u :: us) [44] = u ++ (us.map fun v => 44 :: v).flatten
  | u, [] => by simp [Lib.join_one]
  | u, v :: us => by rw [join_cons44, if_neg (by simp), join_flat v us]; simp
theorem len44 : ∀ (us : List FTr), ∀ v ∈ us, (textT v).length + 1 ≤ ((us.map fun v => 44 :: textT v).flatten).length
  | w :: us, v, hv => by
    rw [List.map_cons, List.flatten_cons, List.length_append, List.length_cons]
    rcases List.mem_cons.1 hv with rfl | hv
    · omega
    · have := len44 us v hv; omega
theorem cnt44 : ∀ (us : List FTr), us.length ≤ ((us.map fun v => 44 :: textT v).flatten).length
  | [] => by simp
  | w :: us => by have := cnt44 us; rw [List.map_cons, List.flatten_cons, List.length_append, List.length_cons, List.length_cons]; omega
theorem ixF_read (t : FTr) : ∀ (N : Nat) (r : List UInt8), okT t = true → (textT t).length ≤ N → ixF N (textT t ++ r, false) = (flat t, (r, false)) := by
  refine FTr.ind (P := fun t => ∀ (N : Nat) (r : List UInt8), okT t = true → (textT t).length ≤ N → ixF N (textT t ++ r, false) = (flat t, (r, false))) (fun x ts ih N r h hN => ?_) t
  have h := okT_iff.1 h
  have hp := List.length_pos_iff.2 (textT_ne (mk x ts))
  obtain ⟨N, rfl⟩ : ∃ d', N = d' + 1 := ⟨N - 1, by omega⟩
  rw [flat_mk]
  rw [textT_mk] at *
  have ihs : ∀ v ∈ ts, (textT v).length ≤ N → ∀ r, ixF N (textT v ++ r, false) = (flat v, (r, false)) := fun v hv hl r => ih v hv N r (h.kids v hv) hl
  obtain ⟨xk, xa, xi⟩ := x
  cases h.kind with
  | zero h0 ha hi ht =>
    simp only at h0 ha hi
    subst h0 hi ht
    obtain ⟨c, hc, hcv⟩ := itoa_byte' (v := xa) (by omega)
    rw [shape_zero rfl, hc, show [90, c] ++ r = 90 :: c :: r from rfl, ixF, if_neg (by simp), if_pos (by simp [tkB, List.isPrefixOf]), ixZ0]
    simp only [List.drop_succ_cons, List.drop_zero]
    rw [dgF_some hcv (by omega), flats_nil]
  | next h0 ha hi ht =>
    simp only at h0 ha hi
    subst h0 ha hi ht
    rw [shape_next rfl, show [83] ++ r = 83 :: r from rfl, ixF, if_neg (by simp), if_neg (by simp [tkB, List.isPrefixOf]), if_pos (by simp [tkB, List.isPrefixOf]), flats_nil]; rfl
  | pick h0 ha hi ht =>
    simp only at h0 ha hi
    subst h0 ht
    obtain ⟨c, hc, hcv⟩ := itoa_byte' (v := xa) (by omega)
    obtain ⟨b, hb, hbv⟩ := itoa_byte' (v := xi) (by omega)
    rw [shape_pick rfl, hc, hb]
    have e : (80 :: ([c] ++ 46 :: [b])) ++ r = 80 :: c :: 46 :: b :: r := rfl
    first | rw [e] | simp only [List.cons_append, List.nil_append, List.append_assoc]
    rw [ixF, if_neg (by simp), if_neg (by simp [tkB, List.isPrefixOf]), if_neg (by simp [tkB, List.isPrefixOf]), if_pos (by simp [tkB, List.isPrefixOf]), ixK0]
    simp only [List.drop_succ_cons, List.drop_zero]
    rw [dgF_some hcv (by omega)]
    simp only
    rw [ndF_some, dgF_some hbv (by omega), flats_nil]
  | comp h0 ha hi t u us ht h1 hl hu =>
    simp only at h0 ha hi h1 hl hu
    subst h0 ht
    rw [shape_comp rfl] at hN ⊢
    simp only [List.map_cons, List.getD_cons_zero, List.drop_succ_cons, List.drop_zero] at hN ⊢
    rw [join_flat] at hN ⊢
    have e : (67 :: 40 :: (textT t ++ 59 :: (textT u ++ (us.map fun v => 44 :: textT v).flatten ++ [41]))) ++ r = 67 :: 40 :: (textT t ++ 59 :: (textT u ++ ((us.map fun v => 44 :: textT v).flatten ++ 41 :: r))) := by simp
    have e0 : List.map (fun v => 44 :: v) (List.map textT us) = us.map fun v => 44 :: textT v := by rw [List.map_map]; rfl
    rw [e0] at hN ⊢
    have hlen := len44 us
    have hcnt := cnt44 us
    simp only [List.length_cons, List.length_append, List.length_nil] at hN
    rw [e, ixF, if_neg (by simp), if_neg (by simp [tkB, List.isPrefixOf]), if_neg (by simp [tkB, List.isPrefixOf]), if_neg (by simp [tkB, List.isPrefixOf]), if_pos (by simp [tkB, List.isPrefixOf])]
    have ep : ixP (ixF N) (textT t ++ 59 :: (textT u ++ ((us.map fun v => 44 :: textT v).flatten ++ 41 :: r)), false) = ([flat t, flat u] ++ us.map flat, (41 :: r, false)) := by
      rw [ixP, ihs t (by simp) (by omega)]
      simp only
      rw [ndF_some, ihs u (by simp) (by omega)]
      simp only
      exact ixL_read us _ _ r (fun v hv => ihs v (by simp [hv]) (by have := hlen v hv; omega)) (by rw [List.length_append]; omega)
    have hu1 := hu u (by simp)
    have := hdA_flat u []
    rw [List.append_nil] at this
    rw [ixC0]
    simp only [List.drop_succ_cons, List.drop_zero]
    rw [ep]
    simp only
    rw [ndF_some]
    simp only [flats_cons, List.cons_append, List.nil_append, List.getD_cons_succ, List.getD_cons_zero, this, hu1, List.flatten_cons, Prod.mk.injEq, List.cons.injEq, true_and, and_true, List.length_cons, List.length_map]
    refine ⟨by omega, ?_⟩
    have ef : ∀ q : List FTr, (q.map flat).flatten = flats q := by
      intro q; induction q with
      | nil => rw [flats_nil]; rfl
      | cons w q ihq => rw [List.map_cons, List.flatten_cons, ihq, flats_cons]
    rw [ef]
  | rep h0 ha hi t u ht h1 h2 =>
    simp only at h0 ha hi h1 h2
    subst h0 ht
    rw [shape_rep rfl] at hN ⊢
    simp only [List.map_cons, List.map_nil, List.getD_cons_zero, List.getD_cons_succ, List.length_cons, List.length_append, List.length_nil] at hN ⊢
    have e : (82 :: 40 :: (textT t ++ 59 :: (textT u ++ [41]))) ++ r = 82 :: 40 :: (textT t ++ 59 :: (textT u ++ 41 :: r)) := by simp
    rw [e, ixF, if_neg (by simp), if_neg (by simp [tkB, List.isPrefixOf]), if_neg (by simp [tkB, List.isPrefixOf]), if_neg (by simp [tkB, List.isPrefixOf]), if_neg (by simp [tkB, List.isPrefixOf]), if_pos (by simp [tkB, List.isPrefixOf]), ixR0]
    simp only [List.drop_succ_cons, List.drop_zero]
    rw [ihs t (by simp) (by omega)]
    simp only
    rw [ndF_some, ihs u (by simp) (by omega)]
    simp only
    have := hdA_flat t []
    rw [List.append_nil] at this
    rw [ndF_some, this, h1, hi, flats_cons, flats_cons, flats_nil, List.append_nil, show xa - 1 + 1 = xa by omega]
  | least h0 ha hi t ht h1 =>
    simp only at h0 ha hi h1
    subst h0 ht
    rw [shape_least rfl] at hN ⊢
    simp only [List.map_cons, List.map_nil, List.getD_cons_zero, List.length_cons, List.length_append, List.length_nil] at hN ⊢
    have e : (77 :: 40 :: (textT t ++ [41])) ++ r = 77 :: 40 :: (textT t ++ 41 :: r) := by simp
    rw [e, ixF, if_neg (by simp), if_neg (by simp [tkB, List.isPrefixOf]), if_neg (by simp [tkB, List.isPrefixOf]), if_neg (by simp [tkB, List.isPrefixOf]), if_neg (by simp [tkB, List.isPrefixOf]), if_neg (by simp [tkB, List.isPrefixOf]), if_pos (by simp [tkB, List.isPrefixOf]), ixM0]
    simp only [List.drop_succ_cons, List.drop_zero]
    rw [ihs t (by simp) (by omega)]
    simp only
    have := hdA_flat t []
    rw [List.append_nil] at this
    rw [ndF_some, this, h1, hi, flats_cons, flats_nil, List.append_nil, show xa + 1 - 1 = xa by omega]

/-! ### the answers -/
noncomputable def ifR (s : List UInt8) : Option (List Nd3) :=
  if 600 < s.length ∨ (ixF (s.length + 1) (s, false)).2.2 = true ∨ (ixF (s.length + 1) (s, false)).2.1 ≠ [] ∨ txF (ixF (s.length + 1) (s, false)).1 ≠ s then none else some (ixF (s.length + 1) (s, false)).1
noncomputable def sfR (s : List UInt8) : Option (List Nd3) :=
  if (pzE s 60 0).2.2 = false ∨ (pzE s 60 0).2.1 ≠ s.length ∨ validF (pzE s 60 0).1 = false ∨ txF (pzE s 60 0).1 ≠ s then none else some (pzE s 60 0).1
theorem ixF_nil (N : Nat) : (ixF (N + 1) ([], false)).2.2 = true := by simp [ixF, tkB, List.isPrefixOf]
theorem rf_eq (s : List UInt8) : ifR s = sfR s := by
  have back : ∀ f, (ifR s = some f ∨ sfR s = some f) → ∃ t, okT t = true ∧ (flat t).length ≤ 60 ∧ textT t = s := by
    intro f hf
    have hv : ∀ g, validF g = true → txF g = s → ∃ t, okT t = true ∧ (flat t).length ≤ 60 ∧ textT t = s := by
      intro g h1 h2
      obtain ⟨h3, t, h4, rfl⟩ := validF_iff.1 h1
      exact ⟨t, h4, h3, by rw [← txF_flat h4 h3]; exact h2⟩
    rcases hf with hf | hf
    · unfold ifR at hf
      split at hf
      · cases hf
      · rename_i hc
        have hx : txF (ixF (s.length + 1) (s, false)).1 = s := Classical.byContradiction fun e => hc (.inr (.inr (.inr e)))
        cases hw : validF (ixF (s.length + 1) (s, false)).1 with
        | true => exact hv _ hw hx
        | false =>
          rw [txF_bad hw] at hx
          subst hx
          exact absurd (.inr (.inl (ixF_nil _))) hc
    · unfold sfR at hf
      split at hf
      · cases hf
      · rename_i hc
        have hx : txF (pzE s 60 0).1 = s := Classical.byContradiction fun e => hc (.inr (.inr (.inr e)))
        have hw : validF (pzE s 60 0).1 = true := by cases hq : validF (pzE s 60 0).1; exact absurd (.inr (.inr (.inl hq))) hc; rfl
        exact hv _ hw hx
  have fwd : ∀ t, okT t = true → (flat t).length ≤ 60 → textT t = s → ifR s = some (flat t) ∧ sfR s = some (flat t) := by
    intro t h1 h2 h3
    have h4 := textT_len t h1
    have e1 := ixF_read t (s.length + 1) [] h1 (by rw [h3]; omega)
    have e2 := pzE_read s t 60 0 [] h1 h2 h2 (by rw [List.drop_zero, h3, List.append_nil])
    rw [List.append_nil, h3] at e1
    rw [h3, Nat.zero_add] at e2
    have e3 := txF_flat h1 h2
    rw [h3] at e3 h4
    refine ⟨?_, ?_⟩
    · unfold ifR
      rw [e1, if_neg]
      rintro (h | h | h | h)
      · omega
      · cases h
      · exact h rfl
      · exact h e3
    · unfold sfR
      rw [e2, if_neg]
      rintro (h | h | h | h)
      · cases h
      · exact h rfl
      · rw [validF_iff.2 ⟨h2, t, h1, rfl⟩] at h; cases h
      · exact h e3
  cases hi : ifR s with
  | some f =>
    obtain ⟨t, h1, h2, h3⟩ := back f (.inl hi)
    have := fwd t h1 h2 h3
    rw [← hi, this.1, this.2]
  | none =>
    cases hs : sfR s with
    | none => rfl
    | some f =>
      obtain ⟨t, h1, h2, h3⟩ := back f (.inr hs)
      have := fwd t h1 h2 h3
      rw [this.1] at hi; cases hi
end Go.Proofs.YtebjpmmgdkepjaaGreatDoor
/-
  Contracts of chapter 11 (recursive functions): nodes, of the reference and of the program.
-/
namespace Go.Proofs.YtebjpmmgdkepjaaGreatDoor
open Go.RowKit

theorem nodeF_bd {x : Nd3} (h : nodeF x = true) : (0 ≤ x.1 ∧ x.1 ≤ 5) ∧ (0 ≤ x.2.1 ∧ x.2.1 ≤ 4) ∧ (0 ≤ x.2.2 ∧ x.2.2 ≤ 4) := by
  obtain ⟨k, a, i⟩ := x
  unfold nodeF at h
  simp only at h ⊢
  by_cases h0 : k = 0
  · subst h0; simp at h; have := inB_t h.1; omega
  by_cases h1 : k = 1
  · subst h1; simp at h; omega
  by_cases h2 : k = 2
  · subst h2; simp at h; have := inB_t h.1; have := inB_t h.2; omega
  by_cases h3 : k = 3
  · subst h3; simp at h; have := inB_t h.1; have := inB_t h.2; omega
  by_cases h4 : k = 4
  · subst h4; simp at h; have := inB_t h.1; omega
  by_cases h5 : k = 5
  · subst h5; simp at h; have := inB_t h.1; omega
  rw [if_neg h0, if_neg h1, if_neg h2, if_neg h3, if_neg h4, if_neg h5] at h; cases h
theorem l11Many_c (p : Addr) (x : Nd3) (m : Nat) (w : World) (h0 : w.cell? p = some (i64 x.1)) (h2 : w.cell? ⟨p.block, p.off + 2, none⟩ = some (i64 x.2.2)) (hx : nodeF x = true) (hm : manyF x = m) :
    Calls Tryz.prog 118 #[.pointer (some p)] w fun e w' => e = .returned (.int .i64 m) ∧ w = w' := by
  have hb := nodeF_bd hx
  clear hx
  obtain ⟨k, a, i⟩ := x
  simp only at h0 h2 hb
  obtain ⟨hb1, hb2, hb3⟩ := hb
  unfold manyF folF at hm
  simp only at hm
  by_cases k3 : k = 3
  · subst k3
    have HM := Lib.hid (show (i : Int) + 1 = (m : Int) by rw [← hm]; simp; omega)
    clear hm
    go_enter Tryz.func118, Tryz.ntmps118
    go_wp2_with fail
    go_ret
    exact ⟨by rw [← HM.out]; go_num, rfl⟩
  have g3 : (k == 3) = false := by simpa using k3
  by_cases k4 : k = 4
  · subst k4
    have HM := Lib.hid (show 2 = m by rw [← hm]; rfl)
    clear hm
    go_enter Tryz.func118, Tryz.ntmps118
    go_wp2_with fail
    go_ret
    exact ⟨by rw [← HM.out]; rfl, rfl⟩
  have g4 : (k == 4) = false := by simpa using k4
  by_cases k5 : k = 5
  · subst k5
    have HM := Lib.hid (show 1 = m by rw [← hm]; rfl)
    clear hm
    go_enter Tryz.func118, Tryz.ntmps118
    go_wp2_with fail
    go_ret
    exact ⟨by rw [← HM.out]; rfl, rfl⟩
  have g5 : (k == 5) = false := by simpa using k5
  have HM := Lib.hid (show 0 = m by rw [← hm, if_neg k3, if_neg k4, if_neg k5]; rfl)
  clear hm k3 k4 k5
  go_enter Tryz.func118, Tryz.ntmps118
  go_wp2_with fail
  go_ret
  exact ⟨by rw [← HM.out]; rfl, rfl⟩
set_option maxHeartbeats 2000000 in
set_option maxRecDepth 100000 in
theorem l11Node_c (p : Addr) (x : Nd3) (q : Bool) (w : World) (h0 : w.cell? p = some (i64 x.1)) (h1 : w.cell? ⟨p.block, p.off + 1, none⟩ = some (i64 x.2.1)) (h2 : w.cell? ⟨p.block, p.off + 2, none⟩ = some (i64 x.2.2)) (hq : nodeF x = q) :
    Calls Tryz.prog 161 #[.pointer (some p)] w fun e w' => e = .returned (.bool q) ∧ Qt w w' := by
  obtain ⟨k, a, i⟩ := x
  unfold nodeF at hq
  simp only at h0 h1 h2 hq
  by_cases k0 : k = 0
  · subst k0
    rw [if_pos rfl] at hq
    cases ea : inB a 0 4
    · have HG := Lib.hid (show false = q by rw [← hq, ea]; rfl)
      clear hq
      go_enter Tryz.func161, Tryz.ntmps161
      go_wp2_with (first | (go_at_call 75; refine (l00In_b _ _ _ _ (by assumption) _).mono ?_; rintro e w' ⟨rfl, rfl⟩))
      go_ret
      exact ⟨by rw [← HG.out]; rfl, (by first | exact Qt.refl _ | exact ⟨_, rfl⟩ | exact Qt.drewN ⟨_, rfl⟩ _)⟩
    by_cases hi : i = 0
    · subst hi
      have HG := Lib.hid (show true = q by rw [← hq, ea]; rfl)
      clear hq
      go_enter Tryz.func161, Tryz.ntmps161
      go_wp2_with (first | (go_at_call 75; refine (l00In_b _ _ _ _ (by assumption) _).mono ?_; rintro e w' ⟨rfl, rfl⟩))
      go_ret
      exact ⟨by rw [← HG.out]; rfl, (by first | exact Qt.refl _ | exact ⟨_, rfl⟩ | exact Qt.drewN ⟨_, rfl⟩ _)⟩
    · have gi : (i == 0) = false := by simpa using hi
      have HG := Lib.hid (show false = q by rw [← hq, ea]; simpa using hi)
      clear hq hi
      go_enter Tryz.func161, Tryz.ntmps161
      go_wp2_with (first | (go_at_call 75; refine (l00In_b _ _ _ _ (by assumption) _).mono ?_; rintro e w' ⟨rfl, rfl⟩))
      go_ret
      exact ⟨by rw [← HG.out]; rfl, (by first | exact Qt.refl _ | exact ⟨_, rfl⟩ | exact Qt.drewN ⟨_, rfl⟩ _)⟩
  rw [if_neg k0] at hq
  have g0 : (k == 0) = false := by simpa using k0
  by_cases k1 : k = 1
  · subst k1
    rw [if_pos rfl] at hq
    clear g0
    by_cases ha : a = 1
    · subst ha
      by_cases hi : i = 0
      · subst hi
        have HG := Lib.hid (show true = q by rw [← hq]; rfl)
        clear hq
        go_enter Tryz.func161, Tryz.ntmps161
        go_wp2_with (first | (go_at_call 75; refine (l00In_b _ _ _ _ (by assumption) _).mono ?_; rintro e w' ⟨rfl, rfl⟩))
        go_ret
        exact ⟨by rw [← HG.out]; rfl, (by first | exact Qt.refl _ | exact ⟨_, rfl⟩ | exact Qt.drewN ⟨_, rfl⟩ _)⟩
      · have gi : (i == 0) = false := by simpa using hi
        have HG := Lib.hid (show false = q by rw [← hq]; simpa using hi)
        clear hq hi
        go_enter Tryz.func161, Tryz.ntmps161
        go_wp2_with (first | (go_at_call 75; refine (l00In_b _ _ _ _ (by assumption) _).mono ?_; rintro e w' ⟨rfl, rfl⟩))
        go_ret
        exact ⟨by rw [← HG.out]; rfl, (by first | exact Qt.refl _ | exact ⟨_, rfl⟩ | exact Qt.drewN ⟨_, rfl⟩ _)⟩
    · have ga : (a == 1) = false := by simpa using ha
      have HG := Lib.hid (show false = q by rw [← hq]; simp [ha])
      clear hq ha
      go_enter Tryz.func161, Tryz.ntmps161
      go_wp2_with (first | (go_at_call 75; refine (l00In_b _ _ _ _ (by assumption) _).mono ?_; rintro e w' ⟨rfl, rfl⟩))
      go_ret
      exact ⟨by rw [← HG.out]; rfl, (by first | exact Qt.refl _ | exact ⟨_, rfl⟩ | exact Qt.drewN ⟨_, rfl⟩ _)⟩
  rw [if_neg k1] at hq
  have g1 : (k == 1) = false := by simpa using k1
  by_cases k2 : k = 2
  · subst k2
    rw [if_pos rfl] at hq
    clear g0 g1
    cases ea : inB a 1 4
    · have HG := Lib.hid (show false = q by rw [← hq, ea]; rfl)
      clear hq
      go_enter Tryz.func161, Tryz.ntmps161
      go_wp2_with (first | (go_at_call 75; refine (l00In_b _ _ _ _ (by assumption) _).mono ?_; rintro e w' ⟨rfl, rfl⟩))
      go_quiet (first | (go_at_call 75; first | exact quiet_left (l00In_b _ _ _ _ (by assumption) _) | exact quiet_add_left (l00In_b _ _ _ _ (by assumption) _)))
      go_wp2_with fail
      go_ret
      exact ⟨by rw [← HG.out]; rfl, (by first | exact Qt.refl _ | exact ⟨_, rfl⟩ | exact Qt.drewN ⟨_, rfl⟩ _)⟩
    · have hab := inB_t ea
      have HG := Lib.hid (show inB i 0 (a - 1) = q by rw [← hq, ea]; rfl)
      cases ei : inB i 0 (a - 1)
      all_goals
        rw [ei] at HG
        clear hq
        go_enter Tryz.func161, Tryz.ntmps161
        go_wp2_with (first | (go_at_call 75; refine (l00In_b _ _ _ _ (by assumption) _).mono ?_; rintro e w' ⟨rfl, rfl⟩))
        go_quiet (first | (go_at_call 75; first | exact quiet_left (l00In_b _ _ _ _ (by assumption) _) | exact quiet_add_left (l00In_b _ _ _ _ (by assumption) _)))
        go_wp2_with fail
        go_ret
        exact ⟨by rw [← HG.out]; rfl, (by first | exact Qt.refl _ | exact ⟨_, rfl⟩ | exact Qt.drewN ⟨_, rfl⟩ _)⟩
  rw [if_neg k2] at hq
  have g2 : (k == 2) = false := by simpa using k2
  by_cases k3 : k = 3
  · subst k3
    rw [if_pos rfl] at hq
    clear g0 g1 g2
    cases ea : inB a 0 4
    · have HG := Lib.hid (show false = q by rw [← hq, ea]; rfl)
      clear hq
      go_enter Tryz.func161, Tryz.ntmps161
      go_wp2_with (first | (go_at_call 75; refine (l00In_b _ _ _ _ (by assumption) _).mono ?_; rintro e w' ⟨rfl, rfl⟩))
      go_ret
      exact ⟨by rw [← HG.out]; rfl, (by first | exact Qt.refl _ | exact ⟨_, rfl⟩ | exact Qt.drewN ⟨_, rfl⟩ _)⟩
    · have HG := Lib.hid (show inB i 1 4 = q by rw [← hq, ea]; rfl)
      cases ei : inB i 1 4
      all_goals
        rw [ei] at HG
        clear hq
        go_enter Tryz.func161, Tryz.ntmps161
        go_wp2_with (first | (go_at_call 75; refine (l00In_b _ _ _ _ (by assumption) _).mono ?_; rintro e w' ⟨rfl, rfl⟩))
        go_ret
        exact ⟨by rw [← HG.out]; rfl, (by first | exact Qt.refl _ | exact ⟨_, rfl⟩ | exact Qt.drewN ⟨_, rfl⟩ _)⟩
  rw [if_neg k3] at hq
  have g3 : (k == 3) = false := by simpa using k3
  by_cases k4 : k = 4
  · subst k4
    rw [if_pos rfl] at hq
    clear g0 g1 g2 g3
    cases ea : inB a 1 3
    · have HG := Lib.hid (show false = q by rw [← hq, ea]; rfl)
      clear hq
      go_enter Tryz.func161, Tryz.ntmps161
      go_wp2_with (first | (go_at_call 75; refine (l00In_b _ _ _ _ (by assumption) _).mono ?_; rintro e w' ⟨rfl, rfl⟩))
      go_ret
      exact ⟨by rw [← HG.out]; rfl, (by first | exact Qt.refl _ | exact ⟨_, rfl⟩ | exact Qt.drewN ⟨_, rfl⟩ _)⟩
    by_cases hi : i = 0
    · subst hi
      have HG := Lib.hid (show true = q by rw [← hq, ea]; rfl)
      clear hq
      go_enter Tryz.func161, Tryz.ntmps161
      go_wp2_with (first | (go_at_call 75; refine (l00In_b _ _ _ _ (by assumption) _).mono ?_; rintro e w' ⟨rfl, rfl⟩))
      go_ret
      exact ⟨by rw [← HG.out]; rfl, (by first | exact Qt.refl _ | exact ⟨_, rfl⟩ | exact Qt.drewN ⟨_, rfl⟩ _)⟩
    · have gi : (i == 0) = false := by simpa using hi
      have HG := Lib.hid (show false = q by rw [← hq, ea]; simpa using hi)
      clear hq hi
      go_enter Tryz.func161, Tryz.ntmps161
      go_wp2_with (first | (go_at_call 75; refine (l00In_b _ _ _ _ (by assumption) _).mono ?_; rintro e w' ⟨rfl, rfl⟩))
      go_ret
      exact ⟨by rw [← HG.out]; rfl, (by first | exact Qt.refl _ | exact ⟨_, rfl⟩ | exact Qt.drewN ⟨_, rfl⟩ _)⟩
  rw [if_neg k4] at hq
  have g4 : (k == 4) = false := by simpa using k4
  by_cases k5 : k = 5
  · subst k5
    rw [if_pos rfl] at hq
    clear g0 g1 g2 g3 g4
    cases ea : inB a 0 3
    · have HG := Lib.hid (show false = q by rw [← hq, ea]; rfl)
      clear hq
      go_enter Tryz.func161, Tryz.ntmps161
      go_wp2_with (first | (go_at_call 75; refine (l00In_b _ _ _ _ (by assumption) _).mono ?_; rintro e w' ⟨rfl, rfl⟩))
      go_ret
      exact ⟨by rw [← HG.out]; rfl, (by first | exact Qt.refl _ | exact ⟨_, rfl⟩ | exact Qt.drewN ⟨_, rfl⟩ _)⟩
    by_cases hi : i = 0
    · subst hi
      have HG := Lib.hid (show true = q by rw [← hq, ea]; rfl)
      clear hq
      go_enter Tryz.func161, Tryz.ntmps161
      go_wp2_with (first | (go_at_call 75; refine (l00In_b _ _ _ _ (by assumption) _).mono ?_; rintro e w' ⟨rfl, rfl⟩))
      go_ret
      exact ⟨by rw [← HG.out]; rfl, (by first | exact Qt.refl _ | exact ⟨_, rfl⟩ | exact Qt.drewN ⟨_, rfl⟩ _)⟩
    · have gi : (i == 0) = false := by simpa using hi
      have HG := Lib.hid (show false = q by rw [← hq, ea]; simpa using hi)
      clear hq hi
      go_enter Tryz.func161, Tryz.ntmps161
      go_wp2_with (first | (go_at_call 75; refine (l00In_b _ _ _ _ (by assumption) _).mono ?_; rintro e w' ⟨rfl, rfl⟩))
      go_ret
      exact ⟨by rw [← HG.out]; rfl, (by first | exact Qt.refl _ | exact ⟨_, rfl⟩ | exact Qt.drewN ⟨_, rfl⟩ _)⟩
  rw [if_neg k5] at hq
  have g5 : (k == 5) = false := by simpa using k5
  have HG := Lib.hid hq
  clear hq k0 k1 k2 k3 k4 k5
  go_enter Tryz.func161, Tryz.ntmps161
  go_wp2_with (first | (go_at_call 75; refine (l00In_b _ _ _ _ (by assumption) _).mono ?_; rintro e w' ⟨rfl, rfl⟩))
  go_ret
  exact ⟨by rw [← HG.out]; rfl, (by first | exact Qt.refl _ | exact ⟨_, rfl⟩ | exact Qt.drewN ⟨_, rfl⟩ _)⟩
set_option maxHeartbeats 2000000 in
set_option maxRecDepth 100000 in
theorem validNode_c (x : Nd3) (q : Bool) (w : World) (hq : nodeF x = q) :
    Calls Tryz.prog 196 #[.agg #[.int .i64 x.1, .int .i64 x.2.1, .int .i64 x.2.2]] w fun e w' => e = .returned (.bool q) ∧ Below w.heap.size w w' := by
  obtain ⟨k, a, i⟩ := x
  unfold nodeF at hq
  simp only at hq ⊢
  by_cases k0 : k = 0
  · subst k0
    rw [if_pos rfl] at hq
    cases ea : inB a 0 4
    · have HG := Lib.hid (show false = q by rw [← hq, ea]; rfl)
      clear hq
      go_enter Tryz.func196, Tryz.ntmps196
      go_wp2_with (first | (go_at_call 24; refine (within_b _ _ _ _ (by assumption) _).mono ?_; rintro e w' ⟨rfl, rfl⟩))
      go_ret
      exact ⟨by rw [← HG.out]; rfl, below_size.alloc (Nat.le_refl _) _⟩
    by_cases hi : i = 0
    · subst hi
      have HG := Lib.hid (show true = q by rw [← hq, ea]; rfl)
      clear hq
      go_enter Tryz.func196, Tryz.ntmps196
      go_wp2_with (first | (go_at_call 24; refine (within_b _ _ _ _ (by assumption) _).mono ?_; rintro e w' ⟨rfl, rfl⟩))
      go_ret
      exact ⟨by rw [← HG.out]; rfl, below_size.alloc (Nat.le_refl _) _⟩
    · have gi : (i == 0) = false := by simpa using hi
      have HG := Lib.hid (show false = q by rw [← hq, ea]; simpa using hi)
      clear hq hi
      go_enter Tryz.func196, Tryz.ntmps196
      go_wp2_with (first | (go_at_call 24; refine (within_b _ _ _ _ (by assumption) _).mono ?_; rintro e w' ⟨rfl, rfl⟩))
      go_ret
      exact ⟨by rw [← HG.out]; rfl, below_size.alloc (Nat.le_refl _) _⟩
  rw [if_neg k0] at hq
  have g0 : (k == 0) = false := by simpa using k0
  by_cases k1 : k = 1
  · subst k1
    rw [if_pos rfl] at hq
    clear g0
    by_cases ha : a = 1
    · subst ha
      by_cases hi : i = 0
      · subst hi
        have HG := Lib.hid (show true = q by rw [← hq]; rfl)
        clear hq
        go_enter Tryz.func196, Tryz.ntmps196
        go_wp2_with (first | (go_at_call 24; refine (within_b _ _ _ _ (by assumption) _).mono ?_; rintro e w' ⟨rfl, rfl⟩))
        go_ret
        exact ⟨by rw [← HG.out]; rfl, below_size.alloc (Nat.le_refl _) _⟩
      · have gi : (i == 0) = false := by simpa using hi
        have HG := Lib.hid (show false = q by rw [← hq]; simpa using hi)
        clear hq hi
        go_enter Tryz.func196, Tryz.ntmps196
        go_wp2_with (first | (go_at_call 24; refine (within_b _ _ _ _ (by assumption) _).mono ?_; rintro e w' ⟨rfl, rfl⟩))
        go_ret
        exact ⟨by rw [← HG.out]; rfl, below_size.alloc (Nat.le_refl _) _⟩
    · have ga : (a == 1) = false := by simpa using ha
      have HG := Lib.hid (show false = q by rw [← hq]; simp [ha])
      clear hq ha
      go_enter Tryz.func196, Tryz.ntmps196
      go_wp2_with (first | (go_at_call 24; refine (within_b _ _ _ _ (by assumption) _).mono ?_; rintro e w' ⟨rfl, rfl⟩))
      go_ret
      exact ⟨by rw [← HG.out]; rfl, below_size.alloc (Nat.le_refl _) _⟩
  rw [if_neg k1] at hq
  have g1 : (k == 1) = false := by simpa using k1
  by_cases k2 : k = 2
  · subst k2
    rw [if_pos rfl] at hq
    clear g0 g1
    cases ea : inB a 1 4
    · have HG := Lib.hid (show false = q by rw [← hq, ea]; rfl)
      clear hq
      go_enter Tryz.func196, Tryz.ntmps196
      go_wp2_with (first | (go_at_call 24; refine (within_b _ _ _ _ (by assumption) _).mono ?_; rintro e w' ⟨rfl, rfl⟩))
      go_ret
      exact ⟨by rw [← HG.out]; rfl, below_size.alloc (Nat.le_refl _) _⟩
    · have hab := inB_t ea
      have HG := Lib.hid (show inB i 0 (a - 1) = q by rw [← hq, ea]; rfl)
      cases ei : inB i 0 (a - 1)
      all_goals
        rw [ei] at HG
        clear hq
        go_enter Tryz.func196, Tryz.ntmps196
        go_wp2_with (first | (go_at_call 24; refine (within_b _ _ _ _ (by assumption) _).mono ?_; rintro e w' ⟨rfl, rfl⟩))
        go_ret
        exact ⟨by rw [← HG.out]; rfl, below_size.alloc (Nat.le_refl _) _⟩
  rw [if_neg k2] at hq
  have g2 : (k == 2) = false := by simpa using k2
  by_cases k3 : k = 3
  · subst k3
    rw [if_pos rfl] at hq
    clear g0 g1 g2
    cases ea : inB a 0 4
    · have HG := Lib.hid (show false = q by rw [← hq, ea]; rfl)
      clear hq
      go_enter Tryz.func196, Tryz.ntmps196
      go_wp2_with (first | (go_at_call 24; refine (within_b _ _ _ _ (by assumption) _).mono ?_; rintro e w' ⟨rfl, rfl⟩))
      go_ret
      exact ⟨by rw [← HG.out]; rfl, below_size.alloc (Nat.le_refl _) _⟩
    · have HG := Lib.hid (show inB i 1 4 = q by rw [← hq, ea]; rfl)
      cases ei : inB i 1 4
      all_goals
        rw [ei] at HG
        clear hq
        go_enter Tryz.func196, Tryz.ntmps196
        go_wp2_with (first | (go_at_call 24; refine (within_b _ _ _ _ (by assumption) _).mono ?_; rintro e w' ⟨rfl, rfl⟩))
        go_ret
        exact ⟨by rw [← HG.out]; rfl, below_size.alloc (Nat.le_refl _) _⟩
  rw [if_neg k3] at hq
  have g3 : (k == 3) = false := by simpa using k3
  by_cases k4 : k = 4
  · subst k4
    rw [if_pos rfl] at hq
    clear g0 g1 g2 g3
    cases ea : inB a 1 3
    · have HG := Lib.hid (show false = q by rw [← hq, ea]; rfl)
      clear hq
      go_enter Tryz.func196, Tryz.ntmps196
      go_wp2_with (first | (go_at_call 24; refine (within_b _ _ _ _ (by assumption) _).mono ?_; rintro e w' ⟨rfl, rfl⟩))
      go_ret
      exact ⟨by rw [← HG.out]; rfl, below_size.alloc (Nat.le_refl _) _⟩
    by_cases hi : i = 0
    · subst hi
      have HG := Lib.hid (show true = q by rw [← hq, ea]; rfl)
      clear hq
      go_enter Tryz.func196, Tryz.ntmps196
      go_wp2_with (first | (go_at_call 24; refine (within_b _ _ _ _ (by assumption) _).mono ?_; rintro e w' ⟨rfl, rfl⟩))
      go_ret
      exact ⟨by rw [← HG.out]; rfl, below_size.alloc (Nat.le_refl _) _⟩
    · have gi : (i == 0) = false := by simpa using hi
      have HG := Lib.hid (show false = q by rw [← hq, ea]; simpa using hi)
      clear hq hi
      go_enter Tryz.func196, Tryz.ntmps196
      go_wp2_with (first | (go_at_call 24; refine (within_b _ _ _ _ (by assumption) _).mono ?_; rintro e w' ⟨rfl, rfl⟩))
      go_ret
      exact ⟨by rw [← HG.out]; rfl, below_size.alloc (Nat.le_refl _) _⟩
  rw [if_neg k4] at hq
  have g4 : (k == 4) = false := by simpa using k4
  by_cases k5 : k = 5
  · subst k5
    rw [if_pos rfl] at hq
    clear g0 g1 g2 g3 g4
    cases ea : inB a 0 3
    · have HG := Lib.hid (show false = q by rw [← hq, ea]; rfl)
      clear hq
      go_enter Tryz.func196, Tryz.ntmps196
      go_wp2_with (first | (go_at_call 24; refine (within_b _ _ _ _ (by assumption) _).mono ?_; rintro e w' ⟨rfl, rfl⟩))
      go_ret
      exact ⟨by rw [← HG.out]; rfl, below_size.alloc (Nat.le_refl _) _⟩
    by_cases hi : i = 0
    · subst hi
      have HG := Lib.hid (show true = q by rw [← hq, ea]; rfl)
      clear hq
      go_enter Tryz.func196, Tryz.ntmps196
      go_wp2_with (first | (go_at_call 24; refine (within_b _ _ _ _ (by assumption) _).mono ?_; rintro e w' ⟨rfl, rfl⟩))
      go_ret
      exact ⟨by rw [← HG.out]; rfl, below_size.alloc (Nat.le_refl _) _⟩
    · have gi : (i == 0) = false := by simpa using hi
      have HG := Lib.hid (show false = q by rw [← hq, ea]; simpa using hi)
      clear hq hi
      go_enter Tryz.func196, Tryz.ntmps196
      go_wp2_with (first | (go_at_call 24; refine (within_b _ _ _ _ (by assumption) _).mono ?_; rintro e w' ⟨rfl, rfl⟩))
      go_ret
      exact ⟨by rw [← HG.out]; rfl, below_size.alloc (Nat.le_refl _) _⟩
  rw [if_neg k5] at hq
  have g5 : (k == 5) = false := by simpa using k5
  have HG := Lib.hid hq
  clear hq k0 k1 k2 k3 k4 k5
  go_enter Tryz.func196, Tryz.ntmps196
  go_wp2_with (first | (go_at_call 24; refine (within_b _ _ _ _ (by assumption) _).mono ?_; rintro e w' ⟨rfl, rfl⟩))
  go_ret
  exact ⟨by rw [← HG.out]; rfl, below_size.alloc (Nat.le_refl _) _⟩
end Go.Proofs.YtebjpmmgdkepjaaGreatDoor
