/-
  Contracts of chapter 2 (naturals): AddNaturals whole.
-/
import Derived.Test.YtbpeagnldgefeaaC02c
namespace Go.Proofs.Ytbpeagnldgefeaa
open Go.RowKit

/-- the first number from k on, of m numbers, for which p holds; -1 if there is none -/
def idxG (p : Nat → Bool) : Nat → Nat → Int
  | 0, _ => -1
  | m + 1, k => if p k = true then (k : Int) else idxG p m (k + 1)

theorem naturals1_c (A : Option Addr) (n c : Nat) (xs : List Int) (w : World) (h : RdI w A n xs) (hn : n ≤ 1000000000000) :
    Calls Try.prog 89 #[.slice A n c] w fun e w' => e = .returned (.bool (!natB xs)) ∧ w = w' := by
  have H := Lib.hid h; clear h
  go_enter Try.func89, Try.ntmps89
  go_wp2_with (go_at_call 83; refine (iIsNatural_c _ _ _ xs _ H.out hn).mono ?_; rintro e w' ⟨rfl, rfl⟩)
  go_ret
  exact ⟨rfl, rfl⟩

set_option maxHeartbeats 1000000 in
theorem indexNat_c (A : Option Addr) (n c : Nat) (vs : List Value) (p : Nat → Bool) (w : World) (h : Rd w A n vs) (hn : n ≤ 1000000000000)
    (hf : ∀ (k : Nat) v, vs[k]? = some v → Calls Try.prog 89 #[v] w fun e w' => e = .returned (.bool (p k)) ∧ w = w') :
    Calls Try.prog 99 #[.slice A n c, .func (.func 89) #[] #[]] w fun e w' => e = .returned (.int .i64 (idxG p n 0)) ∧ w = w' := by
  have H := Lib.hid h; have HF := Lib.hid hf; clear h hf
  go_enter Try.func99, Try.ntmps99
  go_wp2
  go_loop [8] (fun i => ∃ k : Nat, k ≤ n ∧ i = .int .i64 k ∧ Hid (idxG p n 0 = idxG p (n - k) k)) (fun i => n - (intOf i).toNat)
  case atStart => exact ⟨0, by omega, rfl, rfl⟩
  case round =>
    obtain ⟨k, hk, rfl, hr⟩ := hrel
    by_cases hlt : k < n
    · obtain ⟨ad, v, rfl, hab, hv, hc⟩ := H.out.at_ hlt
      have HV := Lib.hid hv; clear hv
      cases hp : p k
      · have HR := Lib.hid (show idxG p n 0 = idxG p (n - (k + 1)) (k + 1) by rw [hr.out, show n - k = (n - (k + 1)) + 1 by omega, idxG, if_neg (by rw [hp]; decide)])
        go_wp2_with fail
        refine (HF.out k v HV.out).mono ?_
        rintro e w' ⟨rfl, rfl⟩
        rw [hp]
        go_wp2
        go_round
        case rel => exact ⟨k + 1, by omega, by go_num, HR.out⟩
        case measure => simp [intOf]; omega
      · have HR := Lib.hid (show idxG p n 0 = k by rw [hr.out, show n - k = (n - (k + 1)) + 1 by omega, idxG, if_pos hp])
        go_wp2_with fail
        refine (HF.out k v HV.out).mono ?_
        rintro e w' ⟨rfl, rfl⟩
        rw [hp]
        go_wp2
        go_ret
        exact ⟨by rw [HR.out]; rfl, rfl⟩
    · have HR := Lib.hid (show idxG p n 0 = -1 by rw [hr.out, show n - k = 0 by omega]; rfl)
      go_wp2
      go_ret
      exact ⟨by rw [HR.out]; rfl, rfl⟩

theorem containsNat_c (A : Option Addr) (n c : Nat) (vs : List Value) (p : Nat → Bool) (w : World) (h : Rd w A n vs) (hn : n ≤ 1000000000000)
    (hf : ∀ (k : Nat) v, vs[k]? = some v → Calls Try.prog 89 #[v] w fun e w' => e = .returned (.bool (p k)) ∧ w = w') :
    Calls Try.prog 88 #[.slice A n c, .func (.func 89) #[] #[]] w fun e w' => e = .returned (.bool (decide (0 ≤ idxG p n 0))) ∧ w = w' := by
  have H := Lib.hid h; have HF := Lib.hid hf; clear h hf
  go_enter Try.func88, Try.ntmps88
  go_wp2_with (go_at_call 99; refine (indexNat_c _ _ _ vs p _ H.out hn HF.out).mono ?_; rintro e w' ⟨rfl, rfl⟩)
  go_ret
  exact ⟨rfl, rfl⟩

/-- naturals(a, b) -/
theorem naturals2_c (g : Nat) (A A' : Option Addr) (n c n' c' : Nat) (xs ys : List Int) (w : World) (hb : Rd w (some ⟨g, 0, none⟩) 2 [.slice A n c, .slice A' n' c']) (h : RdI w A n xs) (h' : RdI w A' n' ys) (hn : n ≤ 1000000000000) (hn' : n' ≤ 1000000000000) (b : Bool) (hbb : (natB xs && natB ys) = b) :
    Calls Try.prog 74 #[.slice (some ⟨g, 0, none⟩) 2 2] w fun e w' => e = .returned (.bool b) ∧ w = w' := by
  have H := Lib.hid h; have H' := Lib.hid h'; have HB := Lib.hid hb; have HE := Lib.hid hbb
  clear h h' hb hbb
  obtain ⟨p, hp⟩ : ∃ p : Nat → Bool, p = fun k => if k = 0 then !natB xs else !natB ys := ⟨_, rfl⟩
  have HF := Lib.hid (show ∀ (k : Nat) v, [Value.slice A n c, Value.slice A' n' c'][k]? = some v → Calls Try.prog 89 #[v] w fun e w' => e = .returned (.bool (p k)) ∧ w = w' by
    intro k v hv
    match k with
    | 0 => simp at hv; subst hv; rw [hp]; exact naturals1_c _ _ _ xs w H.out hn
    | 1 => simp at hv; subst hv; rw [hp]; exact naturals1_c _ _ _ ys w H'.out hn'
    | k + 2 => simp at hv)
  have HR := Lib.hid (show (!decide (0 ≤ idxG p 2 0)) = b by rw [← HE.out, hp]; cases natB xs <;> cases natB ys <;> rfl)
  clear hp
  go_enter Try.func74, Try.ntmps74
  go_wp2_with (go_at_call 88; refine (containsNat_c _ _ _ _ p _ HB.out (by omega) HF.out).mono ?_; rintro e w' ⟨rfl, rfl⟩)
  go_ret
  exact ⟨by rw [← HR.out]; rfl, rfl⟩

set_option maxHeartbeats 1000000 in
theorem sAddNaturals_c (A A' : Option Addr) (n c n' c' : Nat) (xs ys : List Int) (w : World) (h : RdI w A n xs) (h' : RdI w A' n' ys) (hn : n ≤ 1000000000000) (hn' : n' ≤ 1000000000000) :
    Calls Try.prog 43 #[.slice A n c, .slice A' n' c'] w (IntsOut2 (addR xs ys) w) := by
  have HL := Lib.hid h.len; have HL' := Lib.hid h'.len
  have H := Lib.hid h; have H' := Lib.hid h'
  clear h h'
  cases h1 : natB xs
  · have HR := Lib.hid (show addR xs ys = ([], 1) by simp [addR, h1])
    go_enter Try.func43, Try.ntmps43
    go_wp2_with fail
    refine (l02Is_c _ _ _ xs _ H.out hn).mono ?_
    rintro e w1 ⟨rfl, rfl⟩
    rw [h1]
    go_wp2
    go_ret2
    exact ⟨none, 0, 0, by rw [HR.out]; rfl, by rw [HR.out]; exact Wr.nil, by omega, below_size⟩
  cases h2 : natB ys
  · have HR := Lib.hid (show addR xs ys = ([], 1) by simp [addR, h2])
    go_enter Try.func43, Try.ntmps43
    go_wp2_with fail
    refine (l02Is_c _ _ _ xs _ H.out hn).mono ?_
    rintro e w1 ⟨rfl, rfl⟩
    rw [h1]
    go_wp2_with fail
    refine (l02Is_c _ _ _ ys _ H'.out hn').mono ?_
    rintro e w1 ⟨rfl, rfl⟩
    rw [h2]
    go_wp2
    go_ret2
    exact ⟨none, 0, 0, by rw [HR.out]; rfl, by rw [HR.out]; exact Wr.nil, by omega, below_size⟩
  have p1 := natB_parts h1
  have p2 := natB_parts h2
  have hs1 : n ≤ 40 := by rw [← HL.out]; exact p1.1
  have hs2 : n' ≤ 40 := by rw [← HL'.out]; exact p2.1
  have X1 := Lib.hid p1.2.1; have X2 := Lib.hid p2.2.1
  clear p1 p2
  have HR := Lib.hid (show addR xs ys = if 40 < (carL (sumL xs ys) 0).length then ([], 5) else (carL (sumL xs ys) 0, 0) by simp [addR, h1, h2])
  go_enter Try.func43, Try.ntmps43
  go_wp2_with fail
  refine (l02Is_c _ _ _ xs _ H.out hn).mono ?_
  rintro e w1 ⟨rfl, rfl⟩
  rw [h1]
  go_wp2_with fail
  refine (l02Is_c _ _ _ ys _ H'.out hn').mono ?_
  rintro e w1 ⟨rfl, rfl⟩
  rw [h2]
  go_wp2_with fail
  refine (l02Add_c _ _ _ _ _ _ xs ys _ H.out H'.out hs1 hs2 X1.out X2.out).mono ?_
  rintro e w2 ⟨B, d, rfl, q, hb⟩
  have hlen : (carL (sumL xs ys) 0).length ≤ 2000000000 := by
    have a := carL_len (sumL xs ys) 0 (by omega) (by omega) (sumL_bd X1.out X2.out)
    rw [sumL_len, HL.out, HL'.out] at a
    omega
  obtain ⟨zs, hzs⟩ : ∃ zs, zs = carL (sumL xs ys) 0 := ⟨_, rfl⟩
  rw [← hzs] at HR q hlen ⊢
  clear hzs
  by_cases hbig : 40 < zs.length
  · have HF := Lib.hid (show addR xs ys = ([], 5) by rw [HR.out, if_pos hbig])
    go_wp2_with (go_at_call 72; refine (l02Fit_f _ _ _ _ (by omega) hbig).mono ?_; rintro e w' ⟨rfl, rfl⟩)
    go_ret2
    exact ⟨none, 0, 0, by rw [HF.out]; rfl, by rw [HF.out]; exact Wr.nil, by omega, hb⟩
  · have HF := Lib.hid (show addR xs ys = (zs, 0) by rw [HR.out, if_neg hbig])
    go_wp2_with (go_at_call 72; refine (l02Fit_c _ _ _ _ (by omega) (by omega)).mono ?_; rintro e w' ⟨rfl, rfl⟩)
    go_ret2
    exact ⟨B, zs.length, d, by rw [HF.out]; rfl, by rw [HF.out]; exact q, by omega, hb⟩
set_option maxHeartbeats 1000000 in
theorem iAddNaturals_c (A A' : Option Addr) (n c n' c' : Nat) (xs ys : List Int) (w : World) (h : RdI w A n xs) (h' : RdI w A' n' ys) (hn : n ≤ 1000000000000) (hn' : n' ≤ 1000000000000) :
    Calls Try.prog 44 #[.slice A n c, .slice A' n' c'] w (IntsOut2 (addR xs ys) w) := by
  have HL := Lib.hid h.len; have HL' := Lib.hid h'.len
  have H := Lib.hid h; have H' := Lib.hid h'
  clear h h'
  cases h12 : natB xs && natB ys
  · have HR := Lib.hid (show addR xs ys = ([], 1) by unfold addR; rw [h12]; rfl)
    go_enter Try.func44, Try.ntmps44
    go_wp2_with (go_at_call 74; refine (naturals2_c w.heap.size A A' n c n' c' xs ys _ (by exact (Blk.new w _ _).rd rfl (by simp)) (by exact H.out.alloc _) (by exact H'.out.alloc _) hn hn' _ h12).mono ?_; rintro e w' ⟨rfl, rfl⟩)
    go_ret2
    exact ⟨none, 0, 0, by rw [HR.out]; rfl, by rw [HR.out]; exact Wr.nil, by omega, below_size.alloc (Nat.le_refl _) _⟩
  have hh : natB xs = true ∧ natB ys = true := by simpa using h12
  have p1 := natB_parts hh.1
  have p2 := natB_parts hh.2
  have hs1 : n ≤ 40 := by rw [← HL.out]; exact p1.1
  have hs2 : n' ≤ 40 := by rw [← HL'.out]; exact p2.1
  have X1 := Lib.hid p1.2.1; have X2 := Lib.hid p2.2.1
  have HR := Lib.hid (show addR xs ys = if 40 < (carL (sumL xs ys) 0).length then ([], 5) else (carL (sumL xs ys) 0, 0) by simp [addR, h12])
  have HT := Lib.hid (add_trim hh.1 hh.2)
  clear p1 p2 hh
  go_enter Try.func44, Try.ntmps44
  go_wp2_with (go_at_call 74; refine (naturals2_c w.heap.size A A' n c n' c' xs ys _ (by exact (Blk.new w _ _).rd rfl (by simp)) (by exact H.out.alloc _) (by exact H'.out.alloc _) hn hn' _ h12).mono ?_; rintro e w' ⟨rfl, rfl⟩)
  refine (add_c _ _ _ _ _ _ xs ys _ (by exact H.out.alloc _) (by exact H'.out.alloc _) hs1 hs2 X1.out X2.out).mono ?_
  rintro e w2 ⟨B, d, rfl, q, hb⟩
  have hlen : (carL (sumL xs ys) 0).length ≤ 2000000000 := by
    have a := carL_len (sumL xs ys) 0 (by omega) (by omega) (sumL_bd X1.out X2.out)
    rw [sumL_len, HL.out, HL'.out] at a
    omega
  rw [HT.out] at q ⊢
  obtain ⟨zs, hzs⟩ : ∃ zs, zs = carL (sumL xs ys) 0 := ⟨_, rfl⟩
  rw [← hzs] at HR q hlen ⊢
  clear hzs HT
  by_cases hbig : 40 < zs.length
  · have HF := Lib.hid (show addR xs ys = ([], 5) by rw [HR.out, if_pos hbig])
    go_wp2_with (go_at_call 75; refine (limited_f _ _ _ _ (by omega) hbig).mono ?_; rintro e w' ⟨rfl, rfl⟩)
    go_ret2
    exact ⟨none, 0, 0, by rw [HF.out]; rfl, by rw [HF.out]; exact Wr.nil, by omega, up1 hb⟩
  · have HF := Lib.hid (show addR xs ys = (zs, 0) by rw [HR.out, if_neg hbig])
    go_wp2_with (go_at_call 75; refine (limited_c _ _ _ _ (by omega) (by omega)).mono ?_; rintro e w' ⟨rfl, rfl⟩)
    go_ret2
    exact ⟨B, zs.length, d, by rw [HF.out]; rfl, by rw [HF.out]; exact q.wider (by simp) (Nat.le_refl _), by omega, up1 hb⟩
end Go.Proofs.Ytbpeagnldgefeaa
