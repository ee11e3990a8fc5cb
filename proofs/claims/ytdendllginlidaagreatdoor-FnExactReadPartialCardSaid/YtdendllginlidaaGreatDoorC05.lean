/-
  Contracts of chapter 5 (machines with one tape): valid machines.
-/
import Derived.Test.YtdendllginlidaaGreatDoorC01
import Derived.Test.YtdendllginlidaaGreatDoorSegX
import Derived.Laws.StructEq
namespace Go.Proofs.YtdendllginlidaaGreatDoor
open Go.RowKit

abbrev Rule3 := Int × Int × Int
def noneR : Rule3 := (0, 0, -1)
def ruleB (sy st : Int) (r : Rule3) : Bool := decide (r = noneR) || (inB r.1 0 (sy - 1) && (r.2.1 == 1 || r.2.1 == -1) && inB r.2.2 0 (st - 1))
def machB (sy st : Int) (rs : List Rule3) : Bool := inB sy 2 6 && inB st 1 1000 && ((rs.length : Int) == sy * st) && rs.all (ruleB sy st)
theorem mul_bd2 {a b : Int} (h1 : 2 ≤ a ∧ a ≤ 6) (h2 : 1 ≤ b ∧ b ≤ 1000) : 2 ≤ a * b ∧ a * b ≤ 6000 ∧ a * b = b * a := by
  have h3 : 2 * 1 ≤ a * b := Int.mul_le_mul h1.1 h2.1 (by omega) (by omega)
  have h4 : a * b ≤ 6 * 1000 := Int.mul_le_mul h1.2 h2.2 (by omega) (by omega)
  exact ⟨by omega, by omega, Int.mul_comm a b⟩

theorem noRule_c (w : World) : Calls Tryz.prog 142 #[] w fun e w' => e = .returned (.agg #[.int .i64 0, .int .i64 0, .int .i64 (-1)]) ∧ Below w.heap.size w w' := by
  go_enter Tryz.func142, Tryz.ntmps142
  go_wp2_with fail
  refine bodyPost_ret (v := .agg #[.int .i64 0, .int .i64 0, .int .i64 (-1)]) (by simp [results, Tryz.results142, go_sem]) rfl ⟨rfl, ?_⟩
  exact (by have hzz := ((below_size : Below w.heap.size w w)).size; repeat' (first | (with_reducible exact (below_size : Below w.heap.size w w)) | (with_reducible refine Below.alloc ?_ ?_ _) | (with_reducible refine Below.setCell ?_ ?_ _) | (with_reducible refine below_drew ?_) | omega | (simp; done) | (simp; omega)))
theorem l05None_c (w : World) : Calls Tryz.prog 74 #[] w fun e w' => e = .returned (.agg #[.int .i64 0, .int .i64 0, .int .i64 (-1)]) ∧ Below w.heap.size w w' := by
  go_enter Tryz.func74, Tryz.ntmps74
  go_wp2_with fail
  refine bodyPost_ret (v := .agg #[.int .i64 0, .int .i64 0, .int .i64 (-1)]) (by simp [results, Tryz.results74, go_sem]) rfl ⟨rfl, ?_⟩
  exact (by have hzz := ((below_size : Below w.heap.size w w)).size; repeat' (first | (with_reducible exact (below_size : Below w.heap.size w w)) | (with_reducible refine Below.alloc ?_ ?_ _) | (with_reducible refine Below.setCell ?_ ?_ _) | (with_reducible refine below_drew ?_) | omega | (simp; done) | (simp; omega)))
theorem rule_cases (a b c : Int) : ((a, b, c) = noneR ∧ a = 0 ∧ b = 0 ∧ c = -1) ∨ ((a, b, c) ≠ noneR ∧ ((a == 0) = false ∨ (a = 0 ∧ (b == 0) = false) ∨ (a = 0 ∧ b = 0 ∧ (c == -1) = false))) := by
  by_cases ha : a = 0
  · by_cases hb : b = 0
    · by_cases hc : c = -1
      · subst ha; subst hb; subst hc; exact .inl ⟨rfl, rfl, rfl, rfl⟩
      · exact .inr ⟨fun e => by injection e with _ e; injection e with _ e; exact hc e, .inr (.inr ⟨ha, hb, by simpa using hc⟩)⟩
    · exact .inr ⟨fun e => by injection e with _ e; injection e with e _; exact hb e, .inr (.inl ⟨ha, by simpa using hb⟩)⟩
  · exact .inr ⟨fun e => by injection e with e _; exact ha e, .inl (by simpa using ha)⟩
theorem chain4 (u1 u2 u3 _u4 : Bool) : u1 = false ∨ (u1 = true ∧ u2 = true) ∨ (u1 = true ∧ u2 = false ∧ u3 = true) ∨ (u1 = true ∧ u2 = false ∧ u3 = false) := by cases u1 <;> cases u2 <;> cases u3 <;> simp
theorem rule_ne (a b c : Int) (h : (a == 0) = false ∨ (a = 0 ∧ (b == 0) = false) ∨ (a = 0 ∧ b = 0 ∧ (c == -1) = false)) (w : World) : (Op.equalIn 10000 80 (.agg #[.int .i64 a, .int .i64 b, .int .i64 c]) (.agg #[.int .i64 0, .int .i64 0, .int .i64 (-1)])).run Tryz.prog w = .ok false w := by
  have pt0 : ∀ p q r : Int, (part 2 #[.int .i64 p, .int .i64 q, .int .i64 r] 0).run Tryz.prog w = .ok (.int .i64 p) w := fun p q r => by kernel_rfl
  have pt1 : ∀ p q r : Int, (part 2 #[.int .i64 p, .int .i64 q, .int .i64 r] 1).run Tryz.prog w = .ok (.int .i64 q) w := fun p q r => by kernel_rfl
  have pt2 : ∀ p q r : Int, (part 2 #[.int .i64 p, .int .i64 q, .int .i64 r] 2).run Tryz.prog w = .ok (.int .i64 r) w := fun p q r => by kernel_rfl
  have hh := run_equalIn_struct (P := Tryz.prog) w 9999 80 #[.int .i64 a, .int .i64 b, .int .i64 c] #[.int .i64 0, .int .i64 0, .int .i64 (-1)] (by kernel_rfl) (by kernel_rfl)
  simp only [Program.fieldsOf, Tryz.underlying80] at hh
  refine hh.trans ?_
  simp only [Op.eqFields, pt0, pt1, pt2, run_equalIn_int w _ _ _ _ _ _ Tryz.underlying2, Sem.run_bind, Result.andThen_ok, Sem.run_ite, Sem.run_pure]
  rcases h with h | ⟨rfl, h⟩ | ⟨rfl, rfl, h⟩ <;> simp [h]
set_option maxHeartbeats 1000000 in
theorem isRule_c (a b c : Int) (w : World) : Calls Tryz.prog 131 #[.agg #[.int .i64 a, .int .i64 b, .int .i64 c]] w fun e w' => e = .returned (.bool (!decide ((a, b, c) = noneR))) ∧ Below w.heap.size w w' := by
  have hR : ∃ q, decide ((a, b, c) = noneR) = q := ⟨_, rfl⟩
  obtain ⟨q, hq⟩ := hR
  rw [hq]
  have HQ := Lib.hid hq; clear hq
  have c0 : (w.alloc (.cells #[.int .i64 a, .int .i64 b, .int .i64 c] 80)).cell? ⟨w.heap.size, 0, none⟩ = some (i64 a) := new_cell _ _ _ 0
  have c1 : (w.alloc (.cells #[.int .i64 a, .int .i64 b, .int .i64 c] 80)).cell? ⟨w.heap.size, 1, none⟩ = some (i64 b) := new_cell _ _ _ 1
  have c2 : (w.alloc (.cells #[.int .i64 a, .int .i64 b, .int .i64 c] 80)).cell? ⟨w.heap.size, 2, none⟩ = some (i64 c) := new_cell _ _ _ 2
  rcases rule_cases a b c with ⟨hn, rfl, rfl, rfl⟩ | ⟨hn, h | ⟨rfl, h⟩ | ⟨rfl, rfl, h⟩⟩
  all_goals
    have x0 := Ext.cell c0; have x1 := Ext.cell c1; have x2 := Ext.cell c2
    have HN := Lib.hid hn; clear hn
    go_enter Tryz.func131, Tryz.ntmps131
    go_wp2_with fail
    refine Mix.wp_region_mix [3, 1, 0, 0] (fun w' => ∃ x : Ext (w.alloc _), w' = x.w) (by kernel_rfl) (by kernel_rfl) (InExt.drew _) ?_
    repeat (first | (refine Mix.wpMix_read (by rfl) ?_; go_big_quiet_step (fail); refine wpQuiet_nil ?_) | (refine Mix.wpMix_pure (by rfl) ?_; go_big_quiet_step (fail); refine wpQuiet_nil ?_))
    refine Mix.wpMix_chg (by rfl) (fun K hK => ?_)
    go_wp2_with fail
    refine (noRule_c _).mono ?_
    rintro e w1 ⟨rfl, hb⟩
    have em := below_of_drew hb
    go_wp2_with fail
    refine hK _ _ ⟨⟨_, em⟩, rfl⟩ ?_
    clear hK K
    repeat (first | (refine Mix.wpMix_read (by rfl) ?_; go_big_quiet_step (fail); refine wpQuiet_nil ?_) | (refine Mix.wpMix_pure (by rfl) ?_; go_big_quiet_step (fail); refine wpQuiet_nil ?_))
    (refine Mix.wpMix_nil ?_; try simp only [Exit.then])
    go_wp2_with fail
    go_ret
    exact ⟨by rw [← HQ.out]; simp [HN.out], up1 em⟩
set_option maxHeartbeats 2000000 in
theorem l05Rule_c (a b c sy st : Int) (q : Bool) (w : World) (hsy : 1 ≤ sy ∧ sy ≤ 1000) (hst : 1 ≤ st ∧ st ≤ 1000) (hq : ruleB sy st (a, b, c) = q) :
    Calls Tryz.prog 49 #[.agg #[.int .i64 a, .int .i64 b, .int .i64 c], .int .i64 sy, .int .i64 st] w fun e w' => e = .returned (.bool q) ∧ Below w.heap.size w w' := by
  have HQ := Lib.hid hq; clear hq
  obtain ⟨hsy0, hsy1⟩ := hsy
  obtain ⟨hst0, hst1⟩ := hst
  have c0 : (w.alloc (.cells #[.int .i64 a, .int .i64 b, .int .i64 c] 80)).cell? ⟨w.heap.size, 0, none⟩ = some (i64 a) := new_cell _ _ _ 0
  have c1 : (w.alloc (.cells #[.int .i64 a, .int .i64 b, .int .i64 c] 80)).cell? ⟨w.heap.size, 1, none⟩ = some (i64 b) := new_cell _ _ _ 1
  have c2 : (w.alloc (.cells #[.int .i64 a, .int .i64 b, .int .i64 c] 80)).cell? ⟨w.heap.size, 2, none⟩ = some (i64 c) := new_cell _ _ _ 2
  rcases rule_cases a b c with ⟨hn, rfl, rfl, rfl⟩ | ⟨hn, h⟩
  · have x0 := Ext.cell c0; have x1 := Ext.cell c1; have x2 := Ext.cell c2
    have HN := Lib.hid hn; clear hn
    go_enter Tryz.func49, Tryz.ntmps49
    go_wp2_with fail
    refine Mix.wp_region_mix [3, 1, 0] (fun w' => ∃ x : Ext (w.alloc _), w' = x.w) (by kernel_rfl) (by kernel_rfl) (InExt.drew _) ?_
    repeat (first | (refine Mix.wpMix_read (by rfl) ?_; go_big_quiet_step (fail); refine wpQuiet_nil ?_) | (refine Mix.wpMix_pure (by rfl) ?_; go_big_quiet_step (fail); refine wpQuiet_nil ?_))
    refine Mix.wpMix_chg (by rfl) (fun K hK => ?_)
    go_wp2_with fail
    refine (l05None_c _).mono ?_
    rintro e w1 ⟨rfl, hb⟩
    have em := below_of_drew hb
    go_wp2_with fail
    refine hK _ _ ⟨⟨_, em⟩, rfl⟩ ?_
    clear hK K
    repeat (first | (refine Mix.wpMix_read (by rfl) ?_; go_big_quiet_step (fail); refine wpQuiet_nil ?_) | (refine Mix.wpMix_pure (by rfl) ?_; go_big_quiet_step (fail); refine wpQuiet_nil ?_))
    (refine Mix.wpMix_nil ?_; try simp only [Exit.then])
    go_wp2_with fail
    go_ret
    exact ⟨by rw [← HQ.out]; simp [ruleB, HN.out], up1 em⟩
  have HN := Lib.hid hn; clear hn
  have HQ2 := Lib.hid (show (inB a 0 (sy - 1) && (b == 1 || b == -1) && inB c 0 (st - 1)) = q by rw [← HQ.out]; simp [ruleB, HN.out])
  clear HQ
  have hne := rule_ne a b c h
  clear h
  obtain ⟨u1, i1⟩ : ∃ u, inB a 0 (sy - 1) = u := ⟨_, rfl⟩
  obtain ⟨u2, i2⟩ : ∃ u, (b == 1) = u := ⟨_, rfl⟩
  obtain ⟨u3, i3⟩ : ∃ u, (b == -1) = u := ⟨_, rfl⟩
  obtain ⟨u4, i4⟩ : ∃ u, inB c 0 (st - 1) = u := ⟨_, rfl⟩
  rw [i1, i2, i3, i4] at HQ2
  rcases chain4 u1 u2 u3 u4 with rfl | ⟨rfl, rfl⟩ | ⟨rfl, rfl, rfl⟩ | ⟨rfl, rfl, rfl⟩
  all_goals
    have x0 := Ext.cell c0; have x1 := Ext.cell c1; have x2 := Ext.cell c2
    go_enter Tryz.func49, Tryz.ntmps49
    go_wp2_with fail
    refine Mix.wp_region_mix [3, 1, 0] (fun w' => ∃ x : Ext (w.alloc _), w' = x.w) (by kernel_rfl) (by kernel_rfl) (InExt.drew _) ?_
    repeat (first | (refine Mix.wpMix_read (by rfl) ?_; go_big_quiet_step (fail); refine wpQuiet_nil ?_) | (refine Mix.wpMix_pure (by rfl) ?_; go_big_quiet_step (fail); refine wpQuiet_nil ?_))
    refine Mix.wpMix_chg (by rfl) (fun K hK => ?_)
    go_wp2_with fail
    refine (l05None_c _).mono ?_
    rintro e w1 ⟨rfl, hb⟩
    have em := below_of_drew hb
    have d0 := keepc em c0; have d1 := keepc em c1; have d2 := keepc em c2
    go_wp2_with fail
    refine hK _ _ ⟨⟨_, em⟩, rfl⟩ ?_
    clear hK K
    repeat (first | (refine Mix.wpMix_read (by rfl) ?_; go_big_quiet_step (fail); refine wpQuiet_nil ?_) | (refine Mix.wpMix_pure (by rfl) ?_; go_big_quiet_step (fail); refine wpQuiet_nil ?_))
    (refine Mix.wpMix_nil ?_; try simp only [Exit.then])
    clear hne
    go_wp2_with (go_at_call 48; refine (l00In_b _ _ _ _ (by assumption) _).mono ?_; rintro e w' ⟨rfl, rfl⟩)
    go_ret
    exact ⟨by rw [← HQ2.out]; rfl, up1 em⟩
set_option maxHeartbeats 2000000 in
theorem validRule_c (a b c sy st : Int) (A : Option Addr) (n cp : Nat) (q : Bool) (w : World) (hsy : 1 ≤ sy ∧ sy ≤ 1000) (hst : 1 ≤ st ∧ st ≤ 1000) (hq : ruleB sy st (a, b, c) = q) :
    Calls Tryz.prog 109 #[.agg #[.int .i64 sy, .int .i64 st, .slice A n cp], .agg #[.int .i64 a, .int .i64 b, .int .i64 c]] w fun e w' => e = .returned (.bool q) ∧ Below w.heap.size w w' := by
  have HQ := Lib.hid hq; clear hq
  obtain ⟨hsy0, hsy1⟩ := hsy
  obtain ⟨hst0, hst1⟩ := hst
  by_cases hn : (a, b, c) = noneR
  · have hd : decide ((a, b, c) = noneR) = true := decide_eq_true hn
    have HQ2 := Lib.hid (show true = q by rw [← HQ.out]; simp [ruleB, hn])
    clear HQ hn
    go_enter Tryz.func109, Tryz.ntmps109
    go_wp2_with fail
    refine (isRule_c _ _ _ _).mono ?_
    rintro e w1 ⟨rfl, hb⟩
    rw [hd]
    have T := Lib.hid (up2 hb); clear hb
    go_wp2_with fail
    go_ret
    exact ⟨by rw [← HQ2.out]; rfl, T.out⟩
  have hd : decide ((a, b, c) = noneR) = false := decide_eq_false hn
  have HQ2 := Lib.hid (show (inB a 0 (sy - 1) && (b == 1 || b == -1) && inB c 0 (st - 1)) = q by rw [← HQ.out, ruleB, hd, Bool.false_or])
  clear HQ hn
  obtain ⟨u1, i1⟩ : ∃ u, inB a 0 (sy - 1) = u := ⟨_, rfl⟩
  obtain ⟨u2, i2⟩ : ∃ u, (b == 1) = u := ⟨_, rfl⟩
  obtain ⟨u3, i3⟩ : ∃ u, (b == -1) = u := ⟨_, rfl⟩
  obtain ⟨u4, i4⟩ : ∃ u, inB c 0 (st - 1) = u := ⟨_, rfl⟩
  rw [i1, i2, i3, i4] at HQ2
  rcases chain4 u1 u3 u2 u4 with rfl | ⟨rfl, rfl⟩ | ⟨rfl, rfl, rfl⟩ | ⟨rfl, rfl, rfl⟩
  all_goals
    go_enter Tryz.func109, Tryz.ntmps109
    go_wp2_with fail
    refine (isRule_c _ _ _ _).mono ?_
    rintro e w1 ⟨rfl, hb⟩
    rw [hd]
    have d0 : w1.cell? ⟨w.heap.size, 0, none⟩ = some (i64 sy) := keepc hb (by simp)
    have d1 : w1.cell? ⟨w.heap.size, 1, none⟩ = some (i64 st) := keepc hb (by simp)
    have e0 : w1.cell? ⟨w.heap.size + 1, 0, none⟩ = some (i64 a) := keepc hb (by simp)
    have e1 : w1.cell? ⟨w.heap.size + 1, 1, none⟩ = some (i64 b) := keepc hb (by simp)
    have e2 : w1.cell? ⟨w.heap.size + 1, 2, none⟩ = some (i64 c) := keepc hb (by simp)
    have T := Lib.hid (up2 hb); clear hb
    go_wp2_with (go_at_call 67; refine (within_b _ _ _ _ (by assumption) _).mono ?_; rintro e w' ⟨rfl, rfl⟩)
    go_ret
    exact ⟨by rw [← HQ2.out]; simp, T.out⟩
theorem validMachine1_c (a b c sy st : Int) (A : Option Addr) (n cp g : Nat) (q : Bool) (w : World) (hg : Blk w g 33 #[.int .i64 sy, .int .i64 st, .slice A n cp]) (hsy : 1 ≤ sy ∧ sy ≤ 1000) (hst : 1 ≤ st ∧ st ≤ 1000) (hq : ruleB sy st (a, b, c) = q) :
    Calls Tryz.prog 108 #[.agg #[.int .i64 a, .int .i64 b, .int .i64 c], .pointer (some ⟨g, 0, none⟩)] w fun e w' => e = .returned (.bool (!q)) ∧ Below w.heap.size w w' := by
  have c0 := (hg.alloc (.cells #[.int .i64 a, .int .i64 b, .int .i64 c] 80)).cell 0
  have c1 := (hg.alloc (.cells #[.int .i64 a, .int .i64 b, .int .i64 c] 80)).cell 1
  have c2 := (hg.alloc (.cells #[.int .i64 a, .int .i64 b, .int .i64 c] 80)).cell 2
  simp at c0 c1 c2
  clear hg
  go_enter Tryz.func108, Tryz.ntmps108
  go_wp2_with fail
  refine (validRule_c _ _ _ _ _ _ _ _ q _ hsy hst hq).mono ?_
  rintro e w1 ⟨rfl, hb⟩
  have T := Lib.hid (up1 hb); clear hb
  go_wp2_with fail
  go_ret
  exact ⟨rfl, T.out⟩
/-- the first place where f is not true -/
def firstNot {α : Type} (f : α → Bool) : Nat → List α → Int
  | _, [] => -1
  | k, x :: l => if f x then firstNot f (k + 1) l else k
theorem firstNot_all {α : Type} (f : α → Bool) : ∀ (l : List α) (k : Nat), decide (0 ≤ firstNot f k l) = !l.all f
  | [], k => by simp [firstNot]
  | x :: l, k => by
    rw [firstNot, List.all_cons]
    cases hx : f x
    · simp
    · simp [firstNot_all f l (k + 1)]
set_option maxHeartbeats 2000000 in
set_option maxRecDepth 100000 in
theorem indexRule_c (sy st : Int) (A : Option Addr) (n cp g : Nat) (rs : List Rule3) (w : World) (hg : Blk w g 33 #[.int .i64 sy, .int .i64 st, .slice A n cp]) (h : Rd3 w A n rs) (hn : n ≤ 1000000000) (hsy : 1 ≤ sy ∧ sy ≤ 1000) (hst : 1 ≤ st ∧ st ≤ 1000) :
    Calls Tryz.prog 130 #[.slice A n cp, .func (.func 108) #[] #[.pointer (some ⟨g, 0, none⟩)]] w fun e w' => e = .returned (.int .i64 (firstNot (ruleB sy st) 0 rs)) ∧ Below w.heap.size w w' := by
  have HL := Lib.hid h.len
  have H := Lib.hid h; have HG := Lib.hid hg; clear h hg
  go_enter Tryz.func130, Tryz.ntmps130
  go_wp2_with fail
  go_loopw [8] (fun iv wr => ∃ k : Nat, k ≤ n ∧ iv = .int .i64 k ∧ Hid (firstNot (ruleB sy st) 0 rs = firstNot (ruleB sy st) k (rs.drop k)) ∧ Below w.heap.size w wr) (fun iv _ => n - (intOf iv).toNat)
  case atStart => exact ⟨0, by omega, rfl, rfl, below_size⟩
  case round =>
    obtain ⟨k, hk, rfl, hr, hb⟩ := hrel
    have HB := Lib.hid hb
    by_cases hlt : k < n
    · obtain ⟨ad, x, rfl, hab, hx, hc0, hc1, hc2⟩ := (H.out.below hb).at_ hlt
      have HG2 := Lib.hid (HG.out.keep hb)
      have HS := Lib.hid (show firstNot (ruleB sy st) 0 rs = if ruleB sy st x then firstNot (ruleB sy st) (k + 1) (rs.drop (k + 1)) else k by rw [hr.out, drop_at hx, firstNot])
      obtain ⟨p, q, r⟩ := x
      clear hx hb hr
      cases ho : ruleB sy st (p, q, r)
      · have HS2 := Lib.hid (show firstNot (ruleB sy st) 0 rs = k by rw [HS.out, ho]; rfl)
        clear HS
        go_wp2_with fail
        refine (validMachine1_c _ _ _ sy st _ n cp g false _ HG2.out hsy hst ho).mono ?_
        rintro e w1 ⟨rfl, hb1⟩
        have T := Lib.hid (below_chain HB.out HB.out.size hb1); clear hb1 ho
        go_wp2_with fail
        go_ret
        exact ⟨by rw [HS2.out]; rfl, T.out⟩
      · have HS2 := Lib.hid (show firstNot (ruleB sy st) 0 rs = firstNot (ruleB sy st) (k + 1) (rs.drop (k + 1)) by rw [HS.out, ho]; rfl)
        clear HS
        go_wp2_with fail
        refine (validMachine1_c _ _ _ sy st _ n cp g true _ HG2.out hsy hst ho).mono ?_
        rintro e w1 ⟨rfl, hb1⟩
        have T := Lib.hid (below_chain HB.out HB.out.size hb1); clear hb1 ho
        go_wp2_with fail
        go_roundw
        case rel => exact ⟨k + 1, by omega, by go_num, HS2.out, T.out⟩
        case measure => simp [intOf]; omega
    · have HS := Lib.hid (show firstNot (ruleB sy st) 0 rs = -1 by rw [hr.out, List.drop_eq_nil_of_le (by rw [HL.out]; omega)]; rfl)
      clear hb hr
      go_wp2_with fail
      go_ret
      exact ⟨by rw [HS.out]; rfl, HB.out⟩
theorem containsRule_c (sy st : Int) (A : Option Addr) (n cp g : Nat) (rs : List Rule3) (w : World) (hg : Blk w g 33 #[.int .i64 sy, .int .i64 st, .slice A n cp]) (h : Rd3 w A n rs) (hn : n ≤ 1000000000) (hsy : 1 ≤ sy ∧ sy ≤ 1000) (hst : 1 ≤ st ∧ st ≤ 1000) :
    Calls Tryz.prog 107 #[.slice A n cp, .func (.func 108) #[] #[.pointer (some ⟨g, 0, none⟩)]] w fun e w' => e = .returned (.bool (!rs.all (ruleB sy st))) ∧ Below w.heap.size w w' := by
  have HR := Lib.hid (firstNot_all (ruleB sy st) rs 0)
  go_enter Tryz.func107, Tryz.ntmps107
  go_wp2_with fail
  refine (indexRule_c sy st A n cp g rs _ hg h hn hsy hst).mono ?_
  rintro e w1 ⟨rfl, hb⟩
  have T := Lib.hid hb; clear hb
  generalize firstNot (ruleB sy st) 0 rs = E at *
  go_wp2_with fail
  go_ret
  exact ⟨by rw [← HR.out]; rfl, T.out⟩
theorem sizeRule_c (A : Option Addr) (n c : Nat) (w : World) : Calls Tryz.prog 106 #[.slice A n c] w fun e w' => e = .returned (.int .i64 n) ∧ w = w' := by
  go_enter Tryz.func106, Tryz.ntmps106
  go_wp2_with fail
  go_ret
  exact ⟨rfl, rfl⟩
set_option maxHeartbeats 2000000 in
theorem validMachine_c (sy st : Int) (A : Option Addr) (n cp : Nat) (rs : List Rule3) (q : Bool) (w : World) (h : Rd3 w A n rs) (hn : n ≤ 1000000000) (hq : machB sy st rs = q) :
    Calls Tryz.prog 81 #[.agg #[.int .i64 sy, .int .i64 st, .slice A n cp]] w fun e w' => e = .returned (.bool q) ∧ Below w.heap.size w w' := by
  have HL := Lib.hid h.len
  have H := Lib.hid h; have HQ := Lib.hid hq; clear h hq
  cases hb1 : inB sy 2 6
  · have HF := Lib.hid (show false = q by rw [← HQ.out]; simp [machB, hb1])
    go_enter Tryz.func81, Tryz.ntmps81
    go_wp2_with fail
    go_quiet (first | (go_at_call 67; first | exact quiet_left (within_b _ _ _ _ (by assumption) _) | exact quiet_add_left (within_b _ _ _ _ (by assumption) _)))
    go_wp2_with fail
    go_ret
    exact ⟨by rw [← HF.out]; rfl, below_drewN (below_size.alloc (Nat.le_refl _) _) _⟩
  cases hb2 : inB st 1 1000
  · have HF := Lib.hid (show false = q by rw [← HQ.out]; simp [machB, hb2])
    go_enter Tryz.func81, Tryz.ntmps81
    go_wp2_with fail
    go_quiet (first | (go_at_call 67; first | exact quiet_left (within_b _ _ _ _ (by assumption) _) | exact quiet_add_left (within_b _ _ _ _ (by assumption) _)))
    go_wp2_with fail
    go_ret
    exact ⟨by rw [← HF.out]; rfl, below_drewN (below_size.alloc (Nat.le_refl _) _) _⟩
  have hs1 := inB_t hb1
  have hs2 := inB_t hb2
  obtain ⟨hm1, hm2, hm3⟩ := mul_bd2 hs1 hs2
  rw [hm3] at hm1 hm2
  have HM := Lib.hid hm3; clear hm3
  have HK := Lib.hid (show machB sy st rs = (((n : Int) == st * sy) && rs.all (ruleB sy st)) by rw [machB, hb1, hb2, HL.out, HM.out]; simp)
  by_cases hb3 : (n : Int) = st * sy
  · have hb3' : ((n : Int) != st * sy) = false := by simpa using hb3
    have HF := Lib.hid (show rs.all (ruleB sy st) = q by rw [← HQ.out, HK.out]; simp [hb3])
    clear hb3 HK HQ
    go_enter Tryz.func81, Tryz.ntmps81
    go_wp2_with fail
    go_quiet (first | (go_at_call 67; first | exact quiet_left (within_b _ _ _ _ (by assumption) _) | exact quiet_add_left (within_b _ _ _ _ (by assumption) _)) | (go_at_call 106; first | exact quiet_left (sizeRule_c _ _ _ _) | exact quiet_add_left (sizeRule_c _ _ _ _)))
    go_wp2_with fail
    refine (containsRule_c sy st A n cp w.heap.size rs _ (by exact (Blk.new w _ _).drewN nq) (by exact Rd.drewN (Rd.alloc H.out _) nq) hn (by omega) (by omega)).mono ?_
    rintro e w1 ⟨rfl, hb⟩
    rw [HF.out]
    have T := Lib.hid hb; clear hb
    go_wp2_with fail
    go_ret
    exact ⟨by simp, (below_drewN (below_size.alloc (Nat.le_refl _) _) _).trans (T.out.mono (by simp))⟩
  · have hb3' : ((n : Int) != st * sy) = true := by simpa using hb3
    have HF := Lib.hid (show false = q by rw [← HQ.out, HK.out]; simp [hb3])
    clear hb3 HK HQ
    go_enter Tryz.func81, Tryz.ntmps81
    go_wp2_with fail
    go_quiet (first | (go_at_call 67; first | exact quiet_left (within_b _ _ _ _ (by assumption) _) | exact quiet_add_left (within_b _ _ _ _ (by assumption) _)) | (go_at_call 106; first | exact quiet_left (sizeRule_c _ _ _ _) | exact quiet_add_left (sizeRule_c _ _ _ _)))
    go_wp2_with fail
    go_ret
    exact ⟨by rw [← HF.out]; rfl, below_drewN (below_size.alloc (Nat.le_refl _) _) _⟩
end Go.Proofs.YtdendllginlidaaGreatDoor
