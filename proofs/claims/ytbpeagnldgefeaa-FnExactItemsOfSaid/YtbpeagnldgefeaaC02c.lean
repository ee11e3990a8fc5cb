/-
  Contracts of chapter 2 (naturals): add, naturals, AddNaturals.
-/
import Derived.Test.YtbpeagnldgefeaaC02b
import Derived.Laws.CopyOwn
namespace Go.Proofs.Ytbpeagnldgefeaa
open Go.RowKit

def sumTo (xs ys : List Int) (N k : Nat) : List Int := (List.range N).map fun (j : Nat) => xs.getD j 0 + (if j < k then ys.getD j 0 else 0)
theorem sumTo_len (xs ys : List Int) (N k : Nat) : (sumTo xs ys N k).length = N := by simp [sumTo]
theorem sumTo_zero {xs ys : List Int} {N : Nat} (h : xs.length ≤ N) : sumTo xs ys N 0 = xs ++ List.replicate (N - xs.length) 0 := by
  apply List.ext_getElem
  · simp [sumTo]; omega
  · intro j h1 h2
    simp [sumTo, List.getElem_append]
    split
    · rename_i hj; rw [List.getElem?_eq_getElem hj]; rfl
    · rename_i hj; rw [List.getElem?_eq_none (by omega)]; rfl
theorem sumTo_set {xs ys : List Int} {N k : Nat} {y : Int} (hy : ys[k]? = some y) : (((sumTo xs ys N k).map i64).toArray.setIfInBounds k (i64 (xs.getD k 0 + y))) = ((sumTo xs ys N (k + 1)).map i64).toArray := by
  simp only [List.setIfInBounds_toArray]
  congr 1
  apply List.ext_getElem
  · simp [sumTo]
  · intro j h1 h2
    rw [List.getElem_set]
    simp only [sumTo, List.getElem_map, List.getElem_range]
    split
    · rename_i e; subst e; simp [hy]
    · rename_i e
      by_cases hj : j < k
      · simp [hj, show j < k + 1 by omega]
      · simp [hj, show ¬ j < k + 1 by omega]
theorem sumTo_at {xs ys : List Int} {N k : Nat} (hk : k < N) : ((sumTo xs ys N k).map i64).toArray[k]? = some (i64 (xs.getD k 0)) := by
  simp [sumTo, hk]
theorem sumL_len : ∀ (xs ys : List Int), (sumL xs ys).length = max xs.length ys.length
  | [], ys => by simp [sumL]
  | x :: xs, [] => by simp [sumL]
  | x :: xs, y :: ys => by simp [sumL, sumL_len xs ys]
theorem sumL_at : ∀ (xs ys : List Int) (j : Nat), (sumL xs ys).getD j 0 = xs.getD j 0 + ys.getD j 0
  | [], ys, j => by simp [sumL]
  | x :: xs, [], j => by simp [sumL]
  | x :: xs, y :: ys, 0 => by simp [sumL]
  | x :: xs, y :: ys, j + 1 => by simpa [sumL] using sumL_at xs ys j
theorem sumTo_all {xs ys : List Int} {N : Nat} (hN : N = max xs.length ys.length) : sumTo xs ys N ys.length = sumL xs ys := by
  apply List.ext_getElem
  · rw [sumTo_len, sumL_len, hN]
  · intro j h1 h2
    have h := sumL_at xs ys j
    rw [List.getD_eq_getElem?_getD, List.getElem?_eq_getElem h2, Option.getD_some] at h
    rw [h]
    simp only [sumTo, List.getElem_map, List.getElem_range]
    split
    · rfl
    · rename_i hj
      simp [List.getElem?_eq_none (show ys.length ≤ j by omega)]
theorem sumL_bd {xs ys : List Int} (hx : ∀ x ∈ xs, 0 ≤ x ∧ x ≤ 999999) (hy : ∀ y ∈ ys, 0 ≤ y ∧ y ≤ 999999) : ∀ z ∈ sumL xs ys, 0 ≤ z ∧ z ≤ 1000000000000 := by
  intro z hz
  obtain ⟨j, hj, rfl⟩ := List.mem_iff_getElem.1 hz
  have h := sumL_at xs ys j
  rw [List.getD_eq_getElem?_getD, List.getElem?_eq_getElem hj, Option.getD_some] at h
  have h1 : ∀ (l : List Int), (∀ x ∈ l, 0 ≤ x ∧ x ≤ 999999) → 0 ≤ l.getD j 0 ∧ l.getD j 0 ≤ 999999 := by
    intro l hl
    rw [List.getD_eq_getElem?_getD]
    cases e : l[j]? with
    | none => simp
    | some u => exact hl u (List.mem_of_getElem? e)
  have a := h1 xs hx
  have b := h1 ys hy
  omega

set_option maxHeartbeats 2000000 in
set_option maxRecDepth 100000 in
theorem add_lt (A A' : Option Addr) (n c n' c' : Nat) (xs ys : List Int) (w : World) (h : RdI w A n xs) (h' : RdI w A' n' ys) (hn : n ≤ 40) (hn' : n' ≤ 40) (hx : ∀ x ∈ xs, 0 ≤ x ∧ x ≤ 999999) (hy : ∀ y ∈ ys, 0 ≤ y ∧ y ≤ 999999) (hc : n < n') :
    Calls Try.prog 76 #[.slice A n c, .slice A' n' c'] w (IntsOut (trimL (carL (sumL xs ys) 0)) w) := by
  have HL := Lib.hid h.len; have HL' := Lib.hid h'.len
  have H := Lib.hid h; have H' := Lib.hid h'; have HX := Lib.hid hx; have HY := Lib.hid hy
  clear h h' hx hy
  have hN1 : n ≤ n' ∧ n' ≤ n' := by omega
  have HN := Lib.hid (show n' = max xs.length ys.length by rw [HL.out, HL'.out]; omega)
  have hmk := run_mk (P := Try.prog) 24 2 (.int .i64 0) 8 Try.underlying24 info_i64 rfl .i64 .i64 n' n' (Nat.le_refl _) (by omega) (by omega)
  have hsz : (Try.prog.info? 2).map (·.size) = some 1 := by kernel_rfl
  have HSZ := Lib.hid hsz; clear hsz
  go_enter Try.func76, Try.ntmps76
  go_wp2_with (with_reducible refine wpList_copy_splice rfl (.tmp 14) (.tmp 15) _ _ rfl 2 Try.underlying24 HSZ.out (some ⟨w.heap.size, 0, none⟩) A n' n' n c rfl rfl w.heap.size 0 (List.replicate n' (i64 0)) 2 ?c0 (xs.map i64) ?c1 ?c2 ?c3 ?c4 w.heap.size w ?c5 (Nat.le_refl _) ?_)
  case c0 => have := Blk.new w 2 (Array.replicate n' (.int .i64 0)); unfold Blk at this; simpa using this
  case c1 => rw [List.length_map, HL.out]; exact (Nat.min_eq_left (by omega)).symm
  case c2 =>
    intro hpos
    have hp : 0 < n := by simpa [HL.out] using hpos
    obtain ⟨ad, e, hlt, hcl⟩ := (H.out.alloc (.cells (Array.replicate n' (.int .i64 0)) 2)).2 hp
    first | exact ⟨rfl, ad, e, hcl⟩ | exact ⟨ad, e, hcl⟩ | exact ⟨ad, e, fun j x hj => hcl j _ (by rw [List.getElem?_map, hj]; rfl)⟩
  case c3 => simp [HL.out] <;> omega
  case c4 => intro v hv; simp at hv; obtain ⟨x, _, rfl⟩ := hv; rfl
  case c5 => exact below_size.alloc (Nat.le_refl _) _
  intro w2 hblk hb2
  have B2 : Blk w2 w.heap.size 2 ((sumTo xs ys n' 0).map i64).toArray := by
    have h := hblk.out
    rw [sumTo_zero (by rw [HL.out]; omega)]
    unfold Blk
    simpa [splice, HL.out] using h
  have HB2 := Lib.hid B2; have HE := Lib.hid hb2
  clear hblk B2 hb2 hmk
  go_wp2
  go_loopw [19] (fun i wr => ∃ k : Nat, k ≤ n' ∧ i = .int .i64 k ∧ Blk wr w.heap.size 2 ((sumTo xs ys n' k).map i64).toArray ∧ Below w.heap.size w wr) (fun i _ => n' - (intOf i).toNat)
  case atStart => exact ⟨0, by omega, rfl, HB2.out, HE.out⟩
  case round =>
    clear HB2 HE
    obtain ⟨k, hk, rfl, hblk, hb⟩ := hrel
    have HBk := Lib.hid hblk; have HB := Lib.hid hb
    by_cases hlt : k < n'
    · obtain ⟨ad, y, rfl, hab, hy, hcy⟩ := (H'.out.below hb).at_ hlt
      have hyb := HY.out y (List.mem_of_getElem? hy)
      have hd := hblk.cell k
      rw [sumTo_at (by omega)] at hd
      have hf := hblk.frozen k
      obtain ⟨x, hxv⟩ : ∃ x, x = xs.getD k 0 := ⟨_, rfl⟩
      have hxb : 0 ≤ x ∧ x ≤ 999999 := by
        rw [hxv, List.getD_eq_getElem?_getD]
        cases e : xs[k]? with
        | none => simp
        | some u => exact HX.out u (List.mem_of_getElem? e)
      rw [← hxv] at hd
      have HXV := Lib.hid hxv; have Hy := Lib.hid hy
      clear hblk hb hy hxv
      go_wp2
      go_roundw
      case rel =>
        refine ⟨k + 1, by omega, by go_num, ?_, HB.out.setCell (Nat.le_refl _) _⟩
        have := HBk.out.set_ k (i64 (x + y))
        rw [HXV.out, sumTo_set Hy.out] at this
        rw [HXV.out]
        exact this
      case measure => simp [intOf]; omega
    · have HK := Lib.hid (show k = n' by omega)
      clear hblk hb
      have HS := Lib.hid (show sumTo xs ys n' k = sumL xs ys by have := sumTo_all (xs := xs) (ys := ys) HN.out; rw [HL'.out] at this; rw [HK.out]; exact this)
      go_wp2_with fail
      refine (carried_c _ _ _ (sumL xs ys) _ ?q0 (by omega) (sumL_bd HX.out HY.out)).mono ?_
      case q0 =>
        have h := HBk.out
        rw [HS.out] at h
        have hl : (sumL xs ys).length = n' := by rw [sumL_len, ← HN.out]
        exact h.rd (List.take_of_length_le (by simp [hl])) (by simp [hl])
      rintro e w3 ⟨B, d, rfl, q, hb3⟩
      have hz := HB.out.size
      go_wp2
      go_ret
      exact ⟨B, d, rfl, q.wider hz (Nat.le_refl _), below_chain HB.out hz hb3⟩
set_option maxHeartbeats 2000000 in
set_option maxRecDepth 100000 in
theorem add_ge (A A' : Option Addr) (n c n' c' : Nat) (xs ys : List Int) (w : World) (h : RdI w A n xs) (h' : RdI w A' n' ys) (hn : n ≤ 40) (hn' : n' ≤ 40) (hx : ∀ x ∈ xs, 0 ≤ x ∧ x ≤ 999999) (hy : ∀ y ∈ ys, 0 ≤ y ∧ y ≤ 999999) (hc : n' ≤ n) :
    Calls Try.prog 76 #[.slice A n c, .slice A' n' c'] w (IntsOut (trimL (carL (sumL xs ys) 0)) w) := by
  have HL := Lib.hid h.len; have HL' := Lib.hid h'.len
  have H := Lib.hid h; have H' := Lib.hid h'; have HX := Lib.hid hx; have HY := Lib.hid hy
  clear h h' hx hy
  have hN1 : n ≤ n ∧ n' ≤ n := by omega
  have HN := Lib.hid (show n = max xs.length ys.length by rw [HL.out, HL'.out]; omega)
  have hmk := run_mk (P := Try.prog) 24 2 (.int .i64 0) 8 Try.underlying24 info_i64 rfl .i64 .i64 n n (Nat.le_refl _) (by omega) (by omega)
  have hsz : (Try.prog.info? 2).map (·.size) = some 1 := by kernel_rfl
  have HSZ := Lib.hid hsz; clear hsz
  go_enter Try.func76, Try.ntmps76
  go_wp2_with (with_reducible refine wpList_copy_splice rfl (.tmp 14) (.tmp 15) _ _ rfl 2 Try.underlying24 HSZ.out (some ⟨w.heap.size, 0, none⟩) A n n n c rfl rfl w.heap.size 0 (List.replicate n (i64 0)) 2 ?c0 (xs.map i64) ?c1 ?c2 ?c3 ?c4 w.heap.size w ?c5 (Nat.le_refl _) ?_)
  case c0 => have := Blk.new w 2 (Array.replicate n (.int .i64 0)); unfold Blk at this; simpa using this
  case c1 => rw [List.length_map, HL.out]; exact (Nat.min_eq_left (by omega)).symm
  case c2 =>
    intro hpos
    have hp : 0 < n := by simpa [HL.out] using hpos
    obtain ⟨ad, e, hlt, hcl⟩ := (H.out.alloc (.cells (Array.replicate n (.int .i64 0)) 2)).2 hp
    first | exact ⟨rfl, ad, e, hcl⟩ | exact ⟨ad, e, hcl⟩ | exact ⟨ad, e, fun j x hj => hcl j _ (by rw [List.getElem?_map, hj]; rfl)⟩
  case c3 => simp [HL.out] <;> omega
  case c4 => intro v hv; simp at hv; obtain ⟨x, _, rfl⟩ := hv; rfl
  case c5 => exact below_size.alloc (Nat.le_refl _) _
  intro w2 hblk hb2
  have B2 : Blk w2 w.heap.size 2 ((sumTo xs ys n 0).map i64).toArray := by
    have h := hblk.out
    rw [sumTo_zero (by rw [HL.out]; omega)]
    unfold Blk
    simpa [splice, HL.out] using h
  have HB2 := Lib.hid B2; have HE := Lib.hid hb2
  clear hblk B2 hb2 hmk
  go_wp2
  go_loopw [19] (fun i wr => ∃ k : Nat, k ≤ n' ∧ i = .int .i64 k ∧ Blk wr w.heap.size 2 ((sumTo xs ys n k).map i64).toArray ∧ Below w.heap.size w wr) (fun i _ => n' - (intOf i).toNat)
  case atStart => exact ⟨0, by omega, rfl, HB2.out, HE.out⟩
  case round =>
    clear HB2 HE
    obtain ⟨k, hk, rfl, hblk, hb⟩ := hrel
    have HBk := Lib.hid hblk; have HB := Lib.hid hb
    by_cases hlt : k < n'
    · obtain ⟨ad, y, rfl, hab, hy, hcy⟩ := (H'.out.below hb).at_ hlt
      have hyb := HY.out y (List.mem_of_getElem? hy)
      have hd := hblk.cell k
      rw [sumTo_at (by omega)] at hd
      have hf := hblk.frozen k
      obtain ⟨x, hxv⟩ : ∃ x, x = xs.getD k 0 := ⟨_, rfl⟩
      have hxb : 0 ≤ x ∧ x ≤ 999999 := by
        rw [hxv, List.getD_eq_getElem?_getD]
        cases e : xs[k]? with
        | none => simp
        | some u => exact HX.out u (List.mem_of_getElem? e)
      rw [← hxv] at hd
      have HXV := Lib.hid hxv; have Hy := Lib.hid hy
      clear hblk hb hy hxv
      go_wp2
      go_roundw
      case rel =>
        refine ⟨k + 1, by omega, by go_num, ?_, HB.out.setCell (Nat.le_refl _) _⟩
        have := HBk.out.set_ k (i64 (x + y))
        rw [HXV.out, sumTo_set Hy.out] at this
        rw [HXV.out]
        exact this
      case measure => simp [intOf]; omega
    · have HK := Lib.hid (show k = n' by omega)
      clear hblk hb
      have HS := Lib.hid (show sumTo xs ys n k = sumL xs ys by have := sumTo_all (xs := xs) (ys := ys) HN.out; rw [HL'.out] at this; rw [HK.out]; exact this)
      go_wp2_with fail
      refine (carried_c _ _ _ (sumL xs ys) _ ?q0 (by omega) (sumL_bd HX.out HY.out)).mono ?_
      case q0 =>
        have h := HBk.out
        rw [HS.out] at h
        have hl : (sumL xs ys).length = n := by rw [sumL_len, ← HN.out]
        exact h.rd (List.take_of_length_le (by simp [hl])) (by simp [hl])
      rintro e w3 ⟨B, d, rfl, q, hb3⟩
      have hz := HB.out.size
      go_wp2
      go_ret
      exact ⟨B, d, rfl, q.wider hz (Nat.le_refl _), below_chain HB.out hz hb3⟩
theorem add_c (A A' : Option Addr) (n c n' c' : Nat) (xs ys : List Int) (w : World) (h : RdI w A n xs) (h' : RdI w A' n' ys) (hn : n ≤ 40) (hn' : n' ≤ 40) (hx : ∀ x ∈ xs, 0 ≤ x ∧ x ≤ 999999) (hy : ∀ y ∈ ys, 0 ≤ y ∧ y ≤ 999999) :
    Calls Try.prog 76 #[.slice A n c, .slice A' n' c'] w (IntsOut (trimL (carL (sumL xs ys) 0)) w) := by
  rcases Nat.lt_or_ge n n' with hc | hc
  · exact add_lt A A' n c n' c' xs ys w h h' hn hn' hx hy hc
  · exact add_ge A A' n c n' c' xs ys w h h' hn hn' hx hy hc

theorem info_i64S : (Try.prog.info? 24).map (fun i => (i.zero, i.size, i.bytes)) = some (some (.slice none 0 0), 1, 24) := by kernel_rfl

theorem sum_both {xs ys : List Int} {k : Nat} {x y : Int} (hx : xs[k]? = some x) (hy : ys[k]? = some y) : sumL (xs.drop k) (ys.drop k) = (x + y) :: sumL (xs.drop (k + 1)) (ys.drop (k + 1)) := by
  rw [drop_at hx, drop_at hy, sumL]
theorem sum_left {xs ys : List Int} {k : Nat} {x : Int} (hx : xs[k]? = some x) (hy : ys.length ≤ k) : sumL (xs.drop k) (ys.drop k) = x :: sumL (xs.drop (k + 1)) (ys.drop (k + 1)) := by
  rw [drop_at hx, List.drop_eq_nil_of_le hy, List.drop_eq_nil_of_le (show ys.length ≤ k + 1 by omega), sumL, sumL_nil_right]
theorem sum_right {xs ys : List Int} {k : Nat} {y : Int} (hx : xs.length ≤ k) (hy : ys[k]? = some y) : sumL (xs.drop k) (ys.drop k) = y :: sumL (xs.drop (k + 1)) (ys.drop (k + 1)) := by
  rw [drop_at hy, List.drop_eq_nil_of_le hx, List.drop_eq_nil_of_le (show xs.length ≤ k + 1 by omega), sumL, sumL]
theorem sum_none {xs ys : List Int} {k : Nat} (hx : xs.length ≤ k) (hy : ys.length ≤ k) : sumL (xs.drop k) (ys.drop k) = [] := by
  rw [List.drop_eq_nil_of_le hx, List.drop_eq_nil_of_le hy, sumL]

set_option maxHeartbeats 4000000 in
set_option maxRecDepth 100000 in
theorem l02Add_c (A A' : Option Addr) (n c n' c' : Nat) (xs ys : List Int) (w : World) (h : RdI w A n xs) (h' : RdI w A' n' ys) (hn : n ≤ 40) (hn' : n' ≤ 40) (hx : ∀ x ∈ xs, 0 ≤ x ∧ x ≤ 999999) (hy : ∀ y ∈ ys, 0 ≤ y ∧ y ≤ 999999) :
    Calls Try.prog 73 #[.slice A n c, .slice A' n' c'] w (IntsOut (carL (sumL xs ys) 0) w) := by
  have HL := Lib.hid h.len; have HL' := Lib.hid h'.len
  have H := Lib.hid h; have H' := Lib.hid h'; have HX := Lib.hid hx; have HY := Lib.hid hy
  clear h h' hx hy
  go_enter Try.func73, Try.ntmps73
  go_wp2
  go_loopw [5, 6, 7] (fun v cv iv wr => ∃ (k : Nat) (cy : Int) (C : Option Addr) (q cc : Nat) (acc : List Int), v = .slice C q cc ∧ cv = .int .i64 cy ∧ iv = .int .i64 k ∧ 0 ≤ cy ∧ cy ≤ 1000000000 ∧ (k : Int) + cy ≤ 2000000000000 ∧ q ≤ k ∧
    Hid (carL (sumL xs ys) 0 = acc ++ carL (sumL (xs.drop k) (ys.drop k)) cy) ∧ Own wr w.heap.size 2 1 C q cc (acc.map i64) ∧ Below w.heap.size w wr) (fun _ cv iv _ => (40 - (intOf iv).toNat) * 4000000000000 + (intOf cv).toNat)
  case atStart => exact ⟨0, 0, _, 0, 0, [], rfl, rfl, rfl, by omega, by omega, by omega, by omega, rfl, Own.lit (Nat.le_refl _), below_size.alloc (Nat.le_refl _) _⟩
  case round =>
    obtain ⟨k, cy, C, q, cc, acc, rfl, rfl, rfl, hc0, hc1, hkc, hqk, hr, own, hb⟩ := hrel
    have HO := Lib.hid own; have HB := Lib.hid hb
    have HQ := Lib.hid (show q = acc.length by have := own.len; simp at this; omega)
    have hBs := hb.size
    clear own hb
    have stepr : ∀ z : Int, 0 ≤ z → z ≤ 2000000 → carL (sumL (xs.drop k) (ys.drop k)) cy = ((cy + z) % 1000000) :: carL (sumL (xs.drop (k + 1)) (ys.drop (k + 1))) ((cy + z) / 1000000) →
        Hid (carL (sumL xs ys) 0 = (acc ++ [(cy + z) % 1000000]) ++ carL (sumL (xs.drop (k + 1)) (ys.drop (k + 1))) ((cy + z) / 1000000)) := fun z _ _ hz => by
      unfold Hid; rw [hr.out, hz]; simp
    have SR := Lib.hid stepr; clear stepr
    by_cases hlt : k < n
    · obtain ⟨ad, x, rfl, hab, hx, hcx⟩ := (H.out.below HB.out).at_ hlt
      have hxb := HX.out x (List.mem_of_getElem? hx)
      have g1 : decide (k < n) = true := by simp; omega
      by_cases hlt' : k < n'
      · obtain ⟨ad', y, rfl, hab', hy, hcy⟩ := (H'.out.below HB.out).at_ hlt'
        have hyb := HY.out y (List.mem_of_getElem? hy)
        have HF := SR.out (x + y) (by omega) (by omega) (by rw [sum_both hx hy, carL])
        have e1 : cy + (x + y) = cy + x + y := by omega
        rw [e1] at HF
        clear hx hy e1
        go_wp2_with (at_builtin; refine wp_app1 (by rfl) _ _ 24 2 (.int .i64 0) 8 (by rfl) Try.underlying24 info_i64 rfl w.heap.size C q cc (acc.map i64) (by rfl) (by exact HO.out.alloc _) wr.heap.size (i64 ((cy + x + y) % 1000000)) (by rfl) (by exact new_cell _ _ _ 0) rfl (by omega) (by omega) (by simp; omega) ?_; intro g' cap w2 own2 hb2 hk2 hg2 hz2)
        have O2 := Lib.hid own2; have HB2 := Lib.hid hb2
        clear own2 hb2 hk2 hg2 hz2
        go_wp2
        go_roundw
        case rel => exact ⟨k + 1, (cy + x + y) / 1000000, some ⟨g', 0, none⟩, q + 1, cap, acc ++ [(cy + x + y) % 1000000], rfl, rfl, by go_num, by omega, by omega, by omega, by omega, HF, by rw [List.map_append]; exact O2.out, (HB.out.alloc HB.out.size _).trans HB2.out⟩
        case measure => simp [intOf]; omega
      · have HF := SR.out x (by omega) (by omega) (by rw [sum_left hx (by rw [HL'.out]; omega), carL])
        clear hx
        go_wp2_with (at_builtin; refine wp_app1 (by rfl) _ _ 24 2 (.int .i64 0) 8 (by rfl) Try.underlying24 info_i64 rfl w.heap.size C q cc (acc.map i64) (by rfl) (by exact HO.out.alloc _) wr.heap.size (i64 ((cy + x) % 1000000)) (by rfl) (by exact new_cell _ _ _ 0) rfl (by omega) (by omega) (by simp; omega) ?_; intro g' cap w2 own2 hb2 hk2 hg2 hz2)
        have O2 := Lib.hid own2; have HB2 := Lib.hid hb2
        clear own2 hb2 hk2 hg2 hz2
        go_wp2
        go_roundw
        case rel => exact ⟨k + 1, (cy + x) / 1000000, some ⟨g', 0, none⟩, q + 1, cap, acc ++ [(cy + x) % 1000000], rfl, rfl, by go_num, by omega, by omega, by omega, by omega, HF, by rw [List.map_append]; exact O2.out, (HB.out.alloc HB.out.size _).trans HB2.out⟩
        case measure => simp [intOf]; omega
    · have g1 : decide (k < n) = false := by simp; omega
      by_cases hlt' : k < n'
      · obtain ⟨ad', y, rfl, hab', hy, hcy⟩ := (H'.out.below HB.out).at_ hlt'
        have hyb := HY.out y (List.mem_of_getElem? hy)
        have g2 : decide (k < n') = true := by simp; omega
        have HF := SR.out y (by omega) (by omega) (by rw [sum_right (by rw [HL.out]; omega) hy, carL])
        clear hy
        go_wp2_with (at_builtin; refine wp_app1 (by rfl) _ _ 24 2 (.int .i64 0) 8 (by rfl) Try.underlying24 info_i64 rfl w.heap.size C q cc (acc.map i64) (by rfl) (by exact HO.out.alloc _) wr.heap.size (i64 ((cy + y) % 1000000)) (by rfl) (by exact new_cell _ _ _ 0) rfl (by omega) (by omega) (by simp; omega) ?_; intro g' cap w2 own2 hb2 hk2 hg2 hz2)
        have O2 := Lib.hid own2; have HB2 := Lib.hid hb2
        clear own2 hb2 hk2 hg2 hz2
        go_wp2
        go_roundw
        case rel => exact ⟨k + 1, (cy + y) / 1000000, some ⟨g', 0, none⟩, q + 1, cap, acc ++ [(cy + y) % 1000000], rfl, rfl, by go_num, by omega, by omega, by omega, by omega, HF, by rw [List.map_append]; exact O2.out, (HB.out.alloc HB.out.size _).trans HB2.out⟩
        case measure => simp [intOf]; omega
      · have g2 : decide (k < n') = false := by simp; omega
        by_cases hcy : 0 < cy
        · have g3 : decide (0 < cy) = true := by simpa using hcy
          have HF := SR.out 0 (by omega) (by omega) (by rw [sum_none (by rw [HL.out]; omega) (by rw [HL'.out]; omega), sum_none (by rw [HL.out]; omega) (by rw [HL'.out]; omega), carL_pos hcy]; simp)
          rw [Int.add_zero] at HF
          go_wp2_with (at_builtin; refine wp_app1 (by rfl) _ _ 24 2 (.int .i64 0) 8 (by rfl) Try.underlying24 info_i64 rfl w.heap.size C q cc (acc.map i64) (by rfl) (by exact HO.out.alloc _) wr.heap.size (i64 (cy % 1000000)) (by rfl) (by exact new_cell _ _ _ 0) rfl (by omega) (by omega) (by simp; omega) ?_; intro g' cap w2 own2 hb2 hk2 hg2 hz2)
          have O2 := Lib.hid own2; have HB2 := Lib.hid hb2
          clear own2 hb2 hk2 hg2 hz2
          go_wp2
          go_roundw
          case rel => exact ⟨k + 1, cy / 1000000, some ⟨g', 0, none⟩, q + 1, cap, acc ++ [cy % 1000000], rfl, rfl, by go_num, by omega, by omega, by omega, by omega, HF, by rw [List.map_append]; exact O2.out, (HB.out.alloc HB.out.size _).trans HB2.out⟩
          case measure => simp [intOf]; omega
        · have g3 : decide (0 < cy) = false := by simpa using hcy
          have HF := Lib.hid (show carL (sumL xs ys) 0 = acc by rw [hr.out, sum_none (by rw [HL.out]; omega) (by rw [HL'.out]; omega), carL_zero hcy]; simp)
          go_wp2
          go_ret
          rw [HF.out]
          exact ⟨C, cc, by rw [← HQ.out]; rfl, by rw [← HQ.out]; exact HO.out.wr, HB.out⟩
end Go.Proofs.Ytbpeagnldgefeaa
