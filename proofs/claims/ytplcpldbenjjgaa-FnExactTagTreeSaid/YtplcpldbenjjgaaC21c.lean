/-
  Contracts of chapter 21 (trees): the table of ways and TreeAt of the reference.
-/
import Derived.Test.YtplcpldbenjjgaaC21b
namespace Go.Proofs.Ytplcpldbenjjgaa
open Go.RowKit

/-- a row of 91 numbers -/
def rowOf (f : Nat → Int) : Array Value := ((List.range 91).map (fun n => i64 (f n))).toArray
theorem rowOf_at (f : Nat → Int) {n : Nat} (h : n < 91) : (rowOf f)[n]? = some (i64 (f n)) := by simp [rowOf, h]
def upd (f : Nat → Int) (n : Nat) (v : Int) : Nat → Int := fun j => if j = n then v else f j
theorem rowOf_set (f : Nat → Int) {n : Nat} (h : n < 91) (v : Int) : (rowOf f).setIfInBounds n (i64 v) = rowOf (upd f n v) := by
  apply Array.ext'
  simp only [rowOf, List.setIfInBounds_toArray]
  apply List.ext_getElem?
  intro j
  rw [List.getElem?_set]
  simp only [List.getElem?_map, List.length_map, List.length_range]
  by_cases hj : n = j
  · subst hj; simp [h, upd]
  · rw [if_neg hj]
    have : upd f n v j = f j := by unfold upd; rw [if_neg (fun e => hj e.symm)]
    rcases Nat.lt_or_ge j 91 with hh | hh
    · rw [List.getElem?_range hh]; simp [this]
    · rw [List.getElem?_eq_none (by simpa using hh)]; rfl
theorem rowOf_zero : rowOf (fun _ => 0) = Array.replicate 91 (.int .i64 0) := by
  unfold rowOf
  rw [List.map_const', ← Array.toList_replicate, List.length_range]
theorem rowOf_eq {f g : Nat → Int} (h : ∀ n, n < 91 → f n = g n) : rowOf f = rowOf g := by
  unfold rowOf
  congr 1
  apply List.map_congr_left
  intro n hn
  rw [h n (by simpa using hn)]

theorem nodup_inj {α : Type} : ∀ {l : List α} {x : α} {i j : Nat}, l.Nodup → l[i]? = some x → l[j]? = some x → i = j
  | [], _, i, j, _, hi, _ => by simp at hi
  | a :: l, x, 0, 0, _, _, _ => rfl
  | a :: l, x, 0, j + 1, h, hi, hj => by
    simp at hi hj; subst hi
    exact absurd (List.mem_of_getElem? hj) (List.nodup_cons.1 h).1
  | a :: l, x, i + 1, 0, h, hi, hj => by
    simp at hi hj; subst hj
    exact absurd (List.mem_of_getElem? hi) (List.nodup_cons.1 h).1
  | a :: l, x, i + 1, j + 1, h, hi, hj => by
    simp at hi hj
    rw [nodup_inj (List.nodup_cons.1 h).2 hi hj]
/-- a table of so many rows, each in a block of its own -/
structure Tab (w : World) (lo : Nat) (G : Nat) (gs : List Nat) (t : Nat → Nat → Int) : Prop where
  nodup : gs.Nodup
  far : ∀ g ∈ gs, g ≠ G
  low : ∀ g ∈ gs, lo ≤ g
  head : ∀ k g, gs[k]? = some g → w.cell? ⟨G, k, none⟩ = some (.slice (some ⟨g, 0, none⟩) 91 91)
  row : ∀ k g, gs[k]? = some g → Blk w g 2 (rowOf (t k))
theorem Tab.of_eq {w : World} {lo : Nat} {G : Nat} {gs : List Nat} {t u : Nat → Nat → Int} (h : Tab w lo G gs t) (e : ∀ k n, k < gs.length → n < 91 → t k n = u k n) : Tab w lo G gs u :=
  ⟨h.nodup, h.far, h.low, h.head, fun k g hg => by rw [← rowOf_eq (e k · (List.getElem?_eq_some_iff.1 hg).1)]; exact h.row k g hg⟩
theorem Tab.at_ {w : World} {lo : Nat} {G : Nat} {gs : List Nat} {t : Nat → Nat → Int} (h : Tab w lo G gs t) {k n : Nat} (hk : k < gs.length) (hn : n < 91) :
    ∃ g, gs[k]? = some g ∧ w.cell? ⟨G, k, none⟩ = some (.slice (some ⟨g, 0, none⟩) 91 91) ∧ w.cell? ⟨g, n, none⟩ = some (i64 (t k n)) ∧ w.frozen? ⟨g, n, none⟩ = false := by
  have hg := List.getElem?_eq_getElem hk
  refine ⟨_, hg, h.head _ _ hg, ?_, (h.row _ _ hg).frozen n⟩
  rw [(h.row _ _ hg).cell, rowOf_at _ hn]
theorem Tab.keep {w w' : World} {lo : Nat} {G : Nat} {gs : List Nat} {t : Nat → Nat → Int} (h : Tab w lo G gs t) (hb : Below w.heap.size w w') : Tab w' lo G gs t :=
  ⟨h.nodup, h.far, h.low, fun k g hg => keepc hb (h.head k g hg), fun k g hg => (h.row k g hg).keep hb⟩
theorem Tab.put {w : World} {lo : Nat} {G : Nat} {gs : List Nat} {t : Nat → Nat → Int} (h : Tab w lo G gs t) {k n g : Nat} (hg : gs[k]? = some g) (hn : n < 91) (v : Int) :
    Tab (w.setCell ⟨g, n, none⟩ (i64 v)) lo G gs (fun j => if j = k then upd (t k) n v else t j) := by
  refine ⟨h.nodup, h.far, h.low, fun j g' hg' => ?_, fun j g' hg' => ?_⟩
  · rw [World.cell?_setCell_other _ _ _ _ (fun e => h.far g (List.mem_of_getElem? hg) (by have := congrArg Addr.block e; simpa using this))]
    exact h.head j g' hg'
  · by_cases hj : j = k
    · subst hj
      rw [hg] at hg'; injection hg' with hg'; subst hg'
      have := (h.row j g hg).set_ n (i64 v)
      rw [rowOf_set _ hn] at this
      simpa using this
    · simp only [hj, if_false]
      refine (h.row j g' hg').far (fun e => hj ?_) _
      simp at e; subst e
      exact nodup_inj h.nodup hg' hg

/-- the table so far: the column n is filled up to the row k -/
def tabF (n k : Nat) (k' n' : Nat) : Int := if k' ≤ 89 ∧ (n' < n ∨ (n' = n ∧ k' < k)) then (W n' k' : Int) else 0
theorem tabF_put {n k : Nat} (hn : 1 ≤ n) (hk : 1 ≤ k) (hk2 : k ≤ 89) (j m : Nat) : (if j = k then upd (tabF n k k) n (W n k : Int) else tabF n k j) m = tabF n (k + 1) j m := by
  by_cases hj : j = k
  · subst hj
    simp only [if_true, upd]
    by_cases hm : m = n
    · subst hm
      simp only [if_true, tabF]
      rw [if_pos ⟨hk2, .inr (by simp)⟩]
    · simp only [hm, if_false, tabF, false_and, or_false]
  · simp only [hj, if_false, tabF]
    by_cases hm : m = n
    · subst hm
      simp only [Nat.lt_irrefl, true_and, false_or]
      congr 1
      simp only [eq_iff_iff]
      omega
    · simp [hm]
theorem tabF_next {n : Nat} (hn : 1 ≤ n) (j m : Nat) (hj : j < 91) : tabF n 90 j m = tabF (n + 1) 1 j m := by
  unfold tabF
  by_cases hm : m < n
  · simp [hm, show m < n + 1 by omega]
  · by_cases hm2 : m = n
    · subst hm2
      by_cases h89 : j ≤ 89
      · simp [h89, show j < 90 by omega]
      · simp [h89]
    · by_cases h3 : m = n + 1
      · subst h3
        by_cases h0 : j = 0
        · subst h0; simp [W_succ_zero]
        · simp [hm]; omega
      · simp [hm, hm2, h3, show ¬ m < n + 1 by omega]
/-- what the reference reads of the earlier column -/
theorem tabF_read {n k j : Nat} (hn : 1 ≤ n) (hn2 : n ≤ 90) (hj : j ≤ 90) : tabF n k j (n - 1) = W (n - 1) j := by
  unfold tabF
  by_cases h : j ≤ 89
  · rw [if_pos ⟨h, .inl (by omega)⟩]
  · rw [if_neg (by omega), W_big (by omega)]; rfl
theorem tabF_full {j m : Nat} (hj : j ≤ 89) (hm : m ≤ 90) : tabF 91 1 j m = W m j := by
  unfold tabF
  rw [if_pos ⟨hj, .inl (by omega)⟩]

theorem tabF_start (k n : Nat) : (if k = 0 then upd (fun _ => 0) 0 1 else fun _ => 0) n = tabF 1 1 k n := by
  unfold tabF
  by_cases h0 : k = 0
  · subst h0
    by_cases h1 : n = 0
    · subst h1; simp [upd, W_zero_zero]
    · by_cases h2 : n = 1
      · subst h2; simp [upd, W_succ_zero]
      · simp [upd, h1, h2]
  · by_cases h1 : n = 0
    · subst h1
      obtain ⟨j, rfl⟩ : ∃ j, k = j + 1 := ⟨k - 1, by omega⟩
      simp [W_zero_succ]
    · simp [h0, h1]
theorem info_I64S : (Try.prog.info? 31).map (fun i => (i.zero, i.size, i.bytes)) = some (some (.slice none 0 0), 1, 24) := by kernel_rfl
def rowV (g : Nat) : Value := .slice (some ⟨g, 0, none⟩) 91 91
theorem Own.ne2 {w : World} {B : Nat} {e t : TypeId} {size n c g : Nat} {ad : Addr} {vs : List Value} {cs : Array Value} (h : Own w B e size (some ad) n c vs) (hg : Blk w g t cs) (hne : t ≠ e) : g ≠ ad.block :=
  fun e => h.ne_ hg hne ad rfl e.symm
theorem Own.tab {w : World} {B n c : Nat} {ad : Addr} {gs : List Nat} (h : Own w B 31 1 (some ad) n c (gs.map rowV)) (hnd : gs.Nodup) (hlo : ∀ g ∈ gs, B ≤ g) (hz : ∀ g ∈ gs, Blk w g 2 (Array.replicate 91 (.int .i64 0))) (hn : 0 < n) : Tab w B ad.block gs (fun _ _ => 0) := by
  have had := (h.block rfl).2.2.1
  refine ⟨hnd, fun g hg => h.ne2 (hz g hg) (by decide), hlo, fun k g hg => ?_, fun k g hg => ?_⟩
  · obtain ⟨ad', e, _, _, _, hc⟩ := h.wr.2 hn
    injection e with e; subst e
    have := (hc k (rowV g) (by rw [List.getElem?_map, hg]; rfl)).1
    rw [had, head_add] at this
    exact this
  · rw [rowOf_zero]; exact hz g (List.mem_of_getElem? hg)
theorem new_cell2 {w : World} (o : Obj) (v : Value) (t : TypeId) : ((w.alloc o).alloc (.cells #[v] t)).cell? ⟨w.heap.size + 1, 0, none⟩ = some v := by
  have := new_cell (w.alloc o) #[v] t 0
  rw [World.size_alloc] at this
  exact this
theorem l00Min_c (x y : Int) (w : World) : Calls Try.prog 122 #[.int .i64 x, .int .i64 y] w fun e w' => e = .returned (.int .i64 (if x < y then x else y)) ∧ w = w' := by
  by_cases h : x < y
  · rw [if_pos h]
    go_enter Try.func122, Try.ntmps122
    go_wp2
    go_ret
    exact ⟨rfl, rfl⟩
  · rw [if_neg h]
    go_enter Try.func122, Try.ntmps122
    go_wp2
    go_ret
    exact ⟨rfl, rfl⟩
set_option maxHeartbeats 2000000 in
set_option maxRecDepth 100000 in
theorem l21Ways_c (w : World) :
    Calls Try.prog 75 #[] w fun e w' => ∃ G gs c, e = .returned (.slice (some ⟨G, 0, none⟩) 91 c) ∧ gs.length = 91 ∧ Tab w' w.heap.size G gs (tabF 91 1) ∧ Below w.heap.size w w' := by
  have hmk : ∀ w, (Instr.makeSlice 31 (.int .i64 91) (.int .i64 91)).run Try.prog w = .ok (.slice (some ⟨w.heap.size, 0, none⟩) 91 91) (w.alloc (.cells (rowOf fun _ => 0) 2)) := by
    rw [rowOf_zero]
    exact run_mk (P := Try.prog) 31 2 (.int .i64 0) 8 Try.underlying31 info_i64 rfl .i64 .i64 91 91 (Nat.le_refl _) (by omega) (by omega)
  go_enter Try.func75, Try.ntmps75
  go_wp2_with fail
  go_loopw [1, 2] (fun v kv wr => ∃ (q : Nat) (C : Option Addr) (cc : Nat) (gs : List Nat), v = .slice C q cc ∧ kv = .int .i64 q ∧ q ≤ 91 ∧ Own wr w.heap.size 31 1 C q cc (gs.map rowV) ∧ Hid (gs.length = q) ∧ Hid gs.Nodup ∧ (∀ g ∈ gs, w.heap.size ≤ g) ∧ (∀ g ∈ gs, Blk wr g 2 (rowOf fun _ => 0)) ∧ Below w.heap.size w wr) (fun _ kv _ => 91 - (intOf kv).toNat)
  case atStart => exact ⟨0, _, 0, [], rfl, rfl, by omega, Own.lit (Nat.le_refl _), rfl, List.nodup_nil, (fun g hg => by cases hg), (fun g hg => by cases hg), below_size.alloc (Nat.le_refl _) _⟩
  case round =>
    obtain ⟨q, C, cc, gs, rfl, rfl, hq, own, hl, hnd, hlo, hz, hb⟩ := hrel
    have HO := Lib.hid own; have HB := Lib.hid hb; have HLO := Lib.hid hlo; have HZ := Lib.hid hz
    have hBs := hb.size
    clear own hb hlo hz
    by_cases hlt : q < 91
    · have hlt' : (q : Int) ≤ 90 := by omega
      have hmk1 := hmk wr
      go_wp2_with (at_builtin; go_loud (refine wp_app1 (by rfl) _ _ 42 31 (.slice none 0 0) 24 (by rfl) Try.underlying42 info_I64S rfl w.heap.size C q cc (gs.map rowV) (by rfl) (by exact (HO.out.alloc _).alloc _) (wr.heap.size + 1) (rowV wr.heap.size) (by rfl) (by exact new_cell2 _ _ _) rfl (by omega) (by omega) (by simp; omega) ?_); intro g' cap w2 own2 hb2 hk2 hg2 hz2)
      have e0 : Blk (wr.alloc (.cells (rowOf fun _ => 0) 2)) wr.heap.size 2 (rowOf fun _ => 0) := Blk.new _ _ _
      have hz' : ∀ g ∈ gs ++ [wr.heap.size], Blk w2 g 2 (rowOf fun _ => 0) := by
        intro g hg
        rcases List.mem_append.1 hg with hg | hg
        · have hbk := HZ.out g hg
          refine (hk2 g (by have := hbk.lt; simp; omega) (fun ad ha => HO.out.ne_ hbk (by decide) ad ha)).trans ((hbk.alloc _).alloc _)
        · rw [List.mem_singleton] at hg; subst hg
          refine (hk2 _ (by simp; omega) (fun ad ha => by have := (HO.out.block ha).2.1; omega)).trans (e0.alloc _)
      have ZZ := Lib.hid hz'
      have LO2 := Lib.hid (show ∀ g ∈ gs ++ [wr.heap.size], w.heap.size ≤ g by
        intro g hg
        rcases List.mem_append.1 hg with hg | hg
        · exact HLO.out g hg
        · rw [List.mem_singleton] at hg; omega)
      have ND := Lib.hid (show (gs ++ [wr.heap.size]).Nodup by
        rw [List.nodup_append]
        refine ⟨hnd.out, by simp, fun a ha b hb e => ?_⟩
        rw [List.mem_singleton] at hb
        have := (HZ.out a ha).lt
        omega)
      have O2 := Lib.hid own2; have HB2 := Lib.hid hb2
      clear own2 hb2 hk2 hg2 hz2 hz' e0 hmk1
      go_wp2_with fail
      go_roundw
      case rel =>
        exact ⟨q + 1, some ⟨g', 0, none⟩, cap, gs ++ [wr.heap.size], rfl, by go_num, by omega, by rw [List.map_append]; exact O2.out, by unfold Hid; simp; exact hl.out, ND.out, LO2.out, ZZ.out, ((HB.out.alloc HB.out.size _).alloc (by simp; omega) _).trans HB2.out⟩
      case measure => simp [intOf]; omega
    · have HQ := Lib.hid (show q = 91 by omega)
      have hq91 : 91 ≤ q := by omega
      obtain ⟨G, rfl⟩ : ∃ G, C = some ⟨G, 0, none⟩ := by
        obtain ⟨ad, e, _⟩ := HO.out.wr.2 (by omega); exact ⟨ad.block, by rw [e]; exact congrArg some (HO.out.block e).2.2.1⟩
      have T0 := HO.out.tab hnd.out HLO.out (by rw [← rowOf_zero]; exact HZ.out) (by omega)
      have hadl := (HO.out.block rfl).1
      obtain ⟨g0, hg0, a0, a1, a2⟩ := T0.at_ (k := 0) (n := 0) (by rw [hl.out]; omega) (by omega)
      have hg0l := HLO.out g0 (List.mem_of_getElem? hg0)
      have T1 := Lib.hid ((T0.put (n := 0) hg0 (by omega) 1).of_eq (u := tabF 1 1) (fun k n _ _ => tabF_start k n))
      have B1 := Lib.hid (HB.out.setCell (p := ⟨g0, 0, none⟩) hg0l (i64 1))
      clear T0 HO HB HLO HZ hmk hlt
      go_wp2_with fail
      go_loopw [4] (fun nv wr => ∃ n : Nat, 1 ≤ n ∧ n ≤ 91 ∧ nv = .int .i64 n ∧ Tab wr w.heap.size G gs (tabF n 1) ∧ Below w.heap.size w wr) (fun nv _ => 91 - (intOf nv).toNat)
      case atStart => exact ⟨1, by omega, by omega, rfl, T1.out, B1.out⟩
      case round =>
        clear T1 B1 a0 a1 a2
        obtain ⟨n, hn1, hn2, rfl, ht, hb⟩ := hrel
        have T1 := Lib.hid ht; have B1 := Lib.hid hb
        clear ht hb
        by_cases hlt : n < 91
        · have hn90 : decide ((n : Int) ≤ 90) = true := by simp; omega
          go_wp2_with fail
          go_loopw [5] (fun kv wr => ∃ k : Nat, 1 ≤ k ∧ k ≤ 90 ∧ kv = .int .i64 k ∧ Tab wr w.heap.size G gs (tabF n k) ∧ Below w.heap.size w wr) (fun kv _ => 90 - (intOf kv).toNat)
          case atStart => exact ⟨1, by omega, by omega, rfl, T1.out, B1.out⟩
          case round =>
            clear T1 B1
            obtain ⟨k, hk1, hk2, rfl, ht, hb⟩ := hrel
            have T1 := Lib.hid ht; have B1 := Lib.hid hb
            clear ht hb
            by_cases hkl : k < 90
            · obtain ⟨k1, hk1'⟩ : ∃ k1, k1 = k - 1 := ⟨_, rfl⟩
              obtain ⟨k2, hk2'⟩ : ∃ k2, k2 = k + 1 := ⟨_, rfl⟩
              obtain ⟨n1, hn1'⟩ : ∃ n1, n1 = n - 1 := ⟨_, rfl⟩
              obtain ⟨g1, hg1, a0, a1, _⟩ := T1.out.at_ (k := k1) (n := n1) (by rw [hl.out]; omega) (by omega)
              obtain ⟨g2, hg2, b0, b1, _⟩ := T1.out.at_ (k := k2) (n := n1) (by rw [hl.out]; omega) (by omega)
              obtain ⟨g3, hg3, c0, c1, c2⟩ := T1.out.at_ (k := k) (n := n) (by rw [hl.out]; omega) (by omega)
              have HW := Lib.hid (W_rec (n := n) (k := k) hn1 hk1)
              rw [← hn1', ← hk1', ← hk2'] at HW
              rw [hn1', tabF_read hn1 (by omega) (by omega), ← hn1'] at a1 b1
              have d1 := W_bd n1 k1; have d2 := W_bd n1 k2
              have HL3 := Lib.hid (T1.out.low g3 (List.mem_of_getElem? hg3))
              have HG3 := Lib.hid hg3
              generalize (W n1 k1 : Int) = x at *
              generalize (W n1 k2 : Int) = y at *
              obtain ⟨d0, d1⟩ := d1
              obtain ⟨d2, d3⟩ := d2
              have v1 : IntKind.i64.wrap ((k : Int) - 1) = (k1 : Int) := (IntWalk.i64_in _ (by omega)).trans (by omega)
              have v2 : IntKind.i64.wrap ((n : Int) - 1) = (n1 : Int) := (IntWalk.i64_in _ (by omega)).trans (by omega)
              have v3 : IntKind.i64.wrap ((k : Int) + 1) = (k2 : Int) := (IntWalk.i64_in _ (by omega)).trans (by omega)
              have v4 : IntKind.i64.wrap (x + y) = x + y := IntWalk.i64_in _ (by omega)
              have l1 : k1 < q := by omega
              have l2 : k2 < q := by omega
              have l3 : n1 < 91 := by omega
              have l4 : k < q := by omega
              clear hg1 hg2 hg3 hk1' hk2' hn1'
              go_wp2_with fail
              go_quiet (fail)
              go_wp2_with fail
              have HX := Lib.hid (show (if x + y < 1000000000001 then x + y else 1000000000001) = (W n k : Int) by rw [HW.out]; split <;> omega)
              have x0 := Ext.cell (show (wr.drewN nq).cell? ⟨G, k, none⟩ = some (.slice (some ⟨g3, 0, none⟩) 91 91) from c0)
              refine Mix.wp_region_mix [0, 0, 0, 3, 0, 0, 1, 0, 2] (fun w' => ∃ x : Ext (wr.drewN nq), w' = x.w) (by kernel_rfl) (by kernel_rfl) (InExt.drew _) ?_
              repeat (first | (refine Mix.wpMix_read (by rfl) ?_; go_big_quiet_step (fail); refine wpQuiet_nil ?_) | (refine Mix.wpMix_pure (by rfl) ?_; go_big_quiet_step (fail); refine wpQuiet_nil ?_))
              refine Mix.wpMix_chg (by rfl) (fun K hK => ?_)
              go_wp2_with fail
              refine (l00Min_c _ _ _).mono ?_
              rintro e w' ⟨rfl, rfl⟩
              rw [HX.out]
              go_wp2_with fail
              refine hK _ _ ⟨⟨_, below_drew below_size⟩, rfl⟩ ?_
              clear hK K
              repeat (first | (refine Mix.wpMix_read (by rfl) ?_; go_big_quiet_step (fail); refine wpQuiet_nil ?_) | (refine Mix.wpMix_pure (by rfl) ?_; go_big_quiet_step (fail); refine wpQuiet_nil ?_))
              refine Mix.wpMix_tail (by rfl) (fun K hK => ?_)
              go_wp2_with fail
              refine hK _ _ ?_
              clear hK K
              (refine Mix.wpMix_nil ?_; try simp only [Exit.then])
              clear v1 v2 v3 v4
              go_wp2
              go_roundw
              case rel =>
                refine ⟨k + 1, by omega, by omega, by go_num, ?_, (below_drew (below_drewN B1.out nq)).setCell (p := ⟨g3, n, none⟩) HL3.out _⟩
                exact (((T1.out.keep (below_drewN below_size (nq + 1))).put HG3.out (by omega) _).of_eq (fun j m _ _ => tabF_put hn1 hk1 (by omega) j m))
              case measure => simp [intOf]; omega
            · have T2 := Lib.hid ((show Tab wr w.heap.size G gs (tabF n 90) by rw [← show k = 90 by omega]; exact T1.out).of_eq (fun j m hj _ => tabF_next hn1 j m (by have := hl.out; omega)))
              go_wp2_with fail
              go_roundw
              case rel => exact ⟨n + 1, by omega, by omega, by go_num, T2.out, B1.out⟩
              case measure => simp [intOf]; omega
        · obtain rfl : n = 91 := by omega
          go_wp2_with fail
          go_ret
          exact ⟨G, gs, cc, by rw [← HQ.out]; rfl, by rw [hl.out, HQ.out], T1.out, B1.out⟩
theorem szR_next {f n : Nat} {r x : Int} (h : szR 25 x 1 = szR f r n) (hf : 2 ≤ f) (hle : (W n 1 : Int) ≤ r) : szR 25 x 1 = szR (f - 1) (r - W n 1) (n + 2) := by
  rw [h, show f = f - 1 + 1 by omega, szR_go hle, Nat.add_sub_cancel]
set_option maxHeartbeats 2000000 in
set_option maxRecDepth 100000 in
theorem sTreeAt_c (x : Int) (w : World) :
    Calls Try.prog 15 #[.int .i64 x] w fun e w' => ∃ A n c, e = .returned (.tuple #[.slice A n c, .int .i64 (treeR x).2]) ∧ Wr w' w.heap.size w'.heap.size A n ((treeR x).1.map Value.bool) ∧ n ≤ 1000000 ∧ Below w.heap.size w w' := by
  cases hx : inB x 0 1000000000000
  · have HR := Lib.hid (show treeR x = ([], 2) by simp [treeR, hx])
    go_enter Try.func15, Try.ntmps15
    go_wp2_with fail
    refine (l00In_b _ _ _ _ hx _).mono ?_
    rintro e w' ⟨rfl, rfl⟩
    go_wp2_with fail
    go_ret2
    rw [HR.out]
    exact ⟨_, _, _, rfl, Wr.nil, by omega, below_size⟩
  have HR := Lib.hid (show treeR x = (treeL x, 0) by simp [treeR, hx])
  obtain ⟨h0, h1⟩ := inB_t hx
  go_enter Try.func15, Try.ntmps15
  go_wp2_with fail
  refine (l00In_b _ _ _ _ hx _).mono ?_
  rintro e w' ⟨rfl, rfl⟩
  go_wp2_with fail
  refine (l21Ways_c _).mono ?_
  rintro e w0 ⟨G, gs, cc, rfl, hl, ht, hb0⟩
  have T := Lib.hid ht; have HB0 := Lib.hid hb0; have HL := Lib.hid hl
  clear ht hb0 hl
  go_wp2_with fail
  go_loop [0, 5] (fun xv nv => ∃ (f : Nat) (r : Int) (n : Nat), xv = .int .i64 r ∧ nv = .int .i64 n ∧ 0 ≤ r ∧ r ≤ 1000000000000 ∧ 1 ≤ f ∧ 1 ≤ n ∧ n ≤ 50 ∧ ((n % 2 = 1 ∧ n + 2 * f = 51 ∧ Hid (szR 25 x 1 = szR f r n)) ∨ (n % 2 = 0 ∧ n + 1 + 2 * f = 51 ∧ Hid (szR 25 x 1 = szR f r (n + 1))))) (fun _ nv => 60 - (intOf nv).toNat)
  case atStart => exact ⟨25, x, 1, rfl, rfl, h0, h1, by omega, by omega, by omega, .inl ⟨rfl, rfl, rfl⟩⟩
  case round =>
    obtain ⟨f, r, n, rfl, rfl, hr0, hr1, hf, hn1, hn2, hrel⟩ := hrel
    obtain ⟨g, hg, a0, a1, _⟩ := T.out.at_ (k := 1) (n := n) (by rw [HL.out]; omega) (by omega)
    rw [tabF_full (by omega) (by omega)] at a1
    have hn91 : n < 91 := by omega
    rcases hrel with ⟨hp, hnf, hr⟩ | ⟨hp, hnf, hr⟩
    · by_cases hle : (W n 1 : Int) ≤ r
      · have hf2 : 2 ≤ f := by
          rcases Nat.lt_or_ge f 2 with h | h
          · have : n = 49 := by omega
            subst this
            rw [W_end] at hle
            unfold capW at hle; omega
          · exact h
        have HS := Lib.hid (szR_next hr.out hf2 hle)
        have hbd := W_bd n 1
        clear hr
        generalize (W n 1 : Int) = y at *
        obtain ⟨hb0, hb1⟩ := hbd
        have HP := Lib.hid (show (n + 1) % 2 = 0 by omega)
        have HN := Lib.hid (show n + 1 + 1 + 2 * (f - 1) = 51 by omega)
        clear hp hnf
        go_wp2_with fail
        go_round
        case rel => exact ⟨f - 1, r - y, n + 1, rfl, by go_num, by omega, by omega, by omega, by omega, by have := HN.out; omega, .inr ⟨HP.out, HN.out, HS.out⟩⟩
        case measure => simp [intOf]; omega
      · have HT := Lib.hid (show treeL x = bld n r 1 by rw [treeL, hr.out, show f = f - 1 + 1 by omega, szR_stop hle])
        have HRR := Lib.hid (show r < W n 1 by omega)
        have hgt : decide ((W n 1 : Int) ≤ r) = false := by simpa using hle
        clear hr hle hp hnf
        have hbd := W_bd n 1
        go_wp2_with fail
        clear a0 a1 hg hbd
        go_loopw [0, 6, 7, 8] (fun xv tv ov lv wr => ∃ (l k i : Nat) (r : Int) (C : Option Addr) (cc : Nat) (acc : List Bool), xv = .int .i64 r ∧ tv = .slice C i cc ∧ ov = .int .i64 k ∧ lv = .int .i64 i ∧
          i + l = n ∧ k ≤ i + 1 ∧ 0 ≤ r ∧ r ≤ 1000000000000 ∧ Hid (0 < l → r < W l k) ∧ Hid (treeL x = acc ++ bld l r k) ∧ Own wr w0.heap.size 4 1 C i cc (acc.map Value.bool) ∧ Below w0.heap.size w0 wr) (fun _ _ _ lv _ => n - (intOf lv).toNat)
        case atStart =>
          exact ⟨n, 1, 0, r, _, 0, [], rfl, rfl, rfl, rfl, by omega, by omega, hr0, hr1, fun _ => HRR.out, HT.out, Own.lit (Nat.le_refl _), below_size.alloc (Nat.le_refl _) _⟩
        case round =>
          clear hgt hr0 hr1 HT HRR
          obtain ⟨l, k, i, r, C, cc', acc, rfl, rfl, rfl, rfl, hil, hk, hr0, hr1, hw, hr, own, hb⟩ := hrel
          have HO := Lib.hid own; have HB := Lib.hid hb
          have hBs := hb.size
          have TT := Lib.hid (T.out.keep hb)
          clear own hb
          by_cases hl0 : 0 < l
          · obtain ⟨j, hj⟩ : ∃ j, j = l - 1 := ⟨_, rfl⟩
            have hop := open_pos (l := j) hr0 (by rw [show j + 1 = l by omega]; exact hw.out hl0)
            obtain ⟨k1, hk1⟩ : ∃ k1, k1 = k - 1 := ⟨_, rfl⟩
            obtain ⟨g2, hg2, b0, b1, _⟩ := TT.out.at_ (k := k1) (n := j) (by rw [HL.out]; omega) (by omega)
            rw [tabF_full (by omega) (by omega)] at b1
            have hbd := W_bd j k1
            have HW := Lib.hid (rank_true (l := j) hop.1 (by rw [show j + 1 = l by omega]; exact hw.out hl0))
            rw [← hk1] at HW
            have HR2 := Lib.hid (show treeL x = acc ++ bld (j + 1) r k by rw [hr.out, show j + 1 = l by omega])
            have b0' : wr.cell? ⟨G, k - 1, none⟩ = some (.slice (some ⟨g2, 0, none⟩) 91 91) := by rw [← hk1]; exact b0
            have b1' : wr.cell? ⟨g2, n - 1 - i, none⟩ = some (i64 (W j k1)) := by rw [show n - 1 - i = j by omega]; exact b1
            by_cases hle : (W j k1 : Int) ≤ r
            · have HF := Lib.hid (show treeL x = (acc ++ [true]) ++ bld j (r - W j k1) (k + 1) by rw [HR2.out, bld_true (by rw [← hk1]; exact hle), ← hk1]; simp)
              have HV := Lib.hid (show r - W j k1 < (W j (k + 1) : Int) by exact HW.out)
              have hd : decide (r < (W j k1 : Int)) = false := by simp; omega
              have HK1 := Lib.hid hk1
              clear hr hw HW hg2 hk1
              generalize hA : (W j k1 : Int) = a at *
              have HA := Lib.hid hA; clear hA
              obtain ⟨hb0, hb1⟩ := hbd
              go_wp2_with (at_builtin; refine wp_app1 (by rfl) _ _ 22 4 (.bool false) 1 (by rfl) Try.underlying22 info_boolS rfl w0.heap.size C i cc' (acc.map Value.bool) (by rfl) (by exact HO.out.alloc _) wr.heap.size (.bool true) (by rfl) (by exact new_cell _ _ _ 0) rfl (by omega) (by omega) (by simp; omega) ?_; intro g' cap w2 own2 hb2 hk2 hg2 hz2)
              have O2 := Lib.hid own2; have HB2 := Lib.hid hb2
              clear own2 hb2 hk2 hg2 hz2 b0 b1 b0' b1'
              go_wp2_with fail
              go_roundw
              case rel =>
                exact ⟨j, k + 1, i + 1, r - a, some ⟨g', 0, none⟩, cap, acc ++ [true], rfl, rfl, by go_num, by go_num, by omega, by omega, by omega, by omega, fun _ => HV.out, HF.out, by rw [List.map_append]; exact O2.out, (HB.out.alloc HB.out.size _).trans HB2.out⟩
              case measure => simp [intOf]; omega
            · have HF := Lib.hid (show treeL x = (acc ++ [false]) ++ bld j (r) (k1) by rw [HR2.out, bld_false (by rw [← hk1]; exact hle), ← hk1]; simp)
              have HV := Lib.hid (show r < (W j (k1) : Int) by omega)
              have hd : decide (r < (W j k1 : Int)) = true := by simp; omega
              have HK1 := Lib.hid hk1
              clear hr hw HW hg2 hk1
              generalize hA : (W j k1 : Int) = a at *
              have HA := Lib.hid hA; clear hA
              obtain ⟨hb0, hb1⟩ := hbd
              go_wp2_with (at_builtin; refine wp_app1 (by rfl) _ _ 22 4 (.bool false) 1 (by rfl) Try.underlying22 info_boolS rfl w0.heap.size C i cc' (acc.map Value.bool) (by rfl) (by exact HO.out.alloc _) wr.heap.size (.bool false) (by rfl) (by exact new_cell _ _ _ 0) rfl (by omega) (by omega) (by simp; omega) ?_; intro g' cap w2 own2 hb2 hk2 hg2 hz2)
              have O2 := Lib.hid own2; have HB2 := Lib.hid hb2
              clear own2 hb2 hk2 hg2 hz2 b0 b1 b0' b1'
              go_wp2_with fail
              go_roundw
              case rel =>
                exact ⟨j, k1, i + 1, r, some ⟨g', 0, none⟩, cap, acc ++ [false], rfl, rfl, congrArg (Value.int .i64) (by have := HK1.out; omega), by go_num, by omega, by have := HK1.out; omega, by omega, by omega, fun _ => (by rw [HA.out]; exact HV.out), HF.out, by rw [List.map_append]; exact O2.out, (HB.out.alloc HB.out.size _).trans HB2.out⟩
              case measure => simp [intOf]; omega
          · have HF := Lib.hid (show treeL x = acc by rw [hr.out, show l = 0 by omega]; simp [bld])
            have hni : ¬ i < n := by omega
            clear hr
            go_wp2_with fail
            go_ret2
            rw [HR.out]
            exact ⟨_, _, _, rfl, by rw [HF.out]; exact HO.out.wr.wider HB0.out.size (Nat.le_refl _), by omega, below_chain HB0.out HB0.out.size HB.out⟩
    · have hz : (W n 1 : Int) = 0 := by rw [W_odd n 1 (by omega)]; rfl
      rw [hz] at a1
      have HP := Lib.hid (show (n + 1) % 2 = 1 by omega)
      have HN := Lib.hid (show n + 1 + 2 * f = 51 by omega)
      clear hp hnf hz
      go_wp2_with fail
      go_round
      case rel => exact ⟨f, r, n + 1, by go_num, by go_num, by omega, by omega, by omega, by omega, by have := HN.out; omega, .inl ⟨HP.out, HN.out, hr.out⟩⟩
      case measure => simp [intOf]; omega
end Go.Proofs.Ytplcpldbenjjgaa
