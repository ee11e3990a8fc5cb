/-
  Contracts of chapters 10 and 16: the words behind a word by rewriting rules, runs by them, of the reference.
-/
import Derived.Test.YtcbcjhfeidkeaaaC16q
import Derived.Test.YtcbcjhfeidkeaaaP16c
import Derived.Laws.BytesArg
import Derived.Laws.IdiomCopy
import Derived.Test.YtcbcjhfeidkeaaaEqI
namespace Go.Proofs.Ytcbcjhfeidkeaaa
open Go.RowKit

/-- a rule at a place: the word behind it, or what is wrong -/
def ApOut (q : Bool) (R : List Int) (w : World) (e' : Ending) (w' : World) : Prop :=
  if q = true then
    if R.length ≤ 400 then ∃ A c, e' = .returned (.tuple #[.slice A R.length c, i64 0]) ∧ Wr w' w.heap.size w'.heap.size A R.length (R.map i64) ∧ R.length ≤ c ∧ Below w.heap.size w w'
    else e' = .returned (.tuple #[.slice none 0 0, i64 5]) ∧ Below w.heap.size w w'
  else e' = .returned (.tuple #[.slice none 0 0, i64 3]) ∧ Below w.heap.size w w'
set_option maxHeartbeats 4000000 in
set_option maxRecDepth 100000 in
theorem l10Apply_c (P : Option Addr) (m pc : Nat) (ts : List RwT) (X : List Rw) (ad : Addr) (n c : Nat) (ws : List Int) (k a : Nat) (r : Rw) (R : List Int) (q : Bool) (w : World) (hL : RwD w P m ts) (hX : ts.map datR = X) (hg : ∀ r ∈ X, (1 ≤ r.1.length ∧ r.1.length ≤ 5) ∧ r.2.length ≤ 5) (h : RdI w (some ad) n ws) (hn : n ≤ 400) (hnc : n ≤ c) (_hm : m ≤ 60) (hr : X[k]? = some r) (ha : a ≤ n) (hq : decide (r.1 <+: ws.drop a) = q) (hR : ws.take a ++ (r.2 ++ ws.drop (a + r.1.length)) = R) :
    Calls Try.prog 72 #[.slice P m pc, .slice (some ad) n c, .int .i64 k, .int .i64 a] w (ApOut q R w) := by
  have hwl := h.len
  have hkm : k < m := by have := (List.getElem?_eq_some_iff.1 hr).1; have h1 := hL.len; rw [← hX, List.length_map] at this; omega
  have hgr := hg r (List.mem_of_getElem? hr)
  obtain ⟨pd, t, rfl, ht, hc0, hc1, hf, hto⟩ := hL.at_ hkm
  have hrt : r = (t.fx, t.tx) := by
    have h1 := hr
    rw [← hX, List.getElem?_map, ht] at h1
    exact (Option.some.inj h1).symm
  obtain ⟨fl, hfl⟩ : ∃ fl, r.1.length = fl := ⟨_, rfl⟩
  obtain ⟨tl, htl⟩ : ∃ tl, r.2.length = tl := ⟨_, rfl⟩
  have hfn : t.fn = fl := by rw [← hf.len, ← hfl, hrt]
  have htn : t.tn = tl := by rw [← hto.len, ← htl, hrt]
  have hat : q = true → a + fl ≤ n := fun h9 => by
    subst h9
    have h1 := (of_decide_eq_true hq).length_le
    rw [List.length_drop] at h1; omega
  have hRl : q = true → R.length = a + tl + (n - (a + fl)) := fun h9 => by have := hat h9; rw [← hR]; simp; omega
  have HTO := Lib.hid (show RdI w t.tA tl r.2 by rw [← htn, hrt]; exact hto)
  have HF := Lib.hid (show RdI w t.fA fl r.1 by rw [← hfn, hrt]; exact hf)
  have H := Lib.hid h; have HQ := Lib.hid hq; have HAT := Lib.hid hat; have HRL := Lib.hid hRl
  have HRR2 := Lib.hid (show ws.take a ++ (r.2 ++ ws.drop (a + fl)) = R by rw [← hfl]; exact hR)
  have hfb : 1 ≤ fl ∧ fl ≤ 5 := by omega
  have htb : tl ≤ 5 := by omega
  rw [hfn] at hc0; rw [htn] at hc1
  obtain ⟨fA, _, fc, _, tA, _, tc, _⟩ := t
  simp only at hc0 hc1 HTO HF
  have v1 : IntKind.i64.wrap ((n : Int) - (fl : Int)) = (n : Int) - (fl : Int) := IntWalk.i64_in _ (by omega)
  have v2 : IntKind.i64.wrap ((n : Int) - (fl : Int) + (tl : Int)) = (n : Int) - (fl : Int) + (tl : Int) := IntWalk.i64_in _ (by omega)
  clear hL hX hg h hr hq hR hgr hrt hfl htl hfn htn hat hRl ht hf hto hwl
  go_enter Try.func72, Try.ntmps72
  go_wp2_with fail
  refine (l03AtP_c (some ad) n c ws a fA fl fc r.1 q w H.out HF.out hnc (by omega) (by omega) (by omega) HQ.out).mono ?_
  rintro e w1 ⟨rfl, ⟨j, rfl⟩⟩
  have E1 := Lib.hid (show Below w.heap.size w (w.drewN j) from below_drewN below_size j)
  cases q
  · go_wp2_with fail
    go_ret2
    rw [ApOut, if_neg (by simp)]
    exact ⟨rfl, E1.out⟩
  · have hat := HAT.out rfl
    have hRl := Lib.hid (HRL.out rfl)
    have HTO1 := Lib.hid (show RdI (w.drewN j) tA tl r.2 from HTO.out)
    have HW1 := Lib.hid (show RdI (w.drewN j) (some ad) n ws from H.out)
    have hd0 : (w.drewN j).cell? (pd.add (k * 2)) = some (.slice fA fl fc) := hc0
    have hd1 : (w.drewN j).cell? ⟨(pd.add (k * 2)).block, (pd.add (k * 2)).off + 1, none⟩ = some (.slice tA tl tc) := hc1
    obtain ⟨w1, hw1⟩ : ∃ w1, w.drewN j = w1 := ⟨_, rfl⟩
    rw [hw1] at E1 HTO1 HW1 hd0 hd1 ⊢
    clear hw1 hc0 hc1 HTO HF H HQ HAT HRL
    by_cases h4 : R.length ≤ 400
    · have g4 : decide ((400 : Int) < (n : Int) - (fl : Int) + (tl : Int)) = false := by rw [decide_eq_false_iff_not]; have := hRl.out; omega
      have H4 := Lib.hid h4
      clear h4
      go_wp2_with fail
      go_quiet (fail)
      obtain ⟨w2, hw2⟩ : ∃ w2, w1.drewN nq = w2 := ⟨_, rfl⟩
      have E2 := Lib.hid (show Below w.heap.size w w2 by rw [← hw2]; exact below_drewN E1.out nq)
      have HTO2 := Lib.hid (show RdI w2 tA tl r.2 by rw [← hw2]; exact HTO1.out)
      have HW2 := Lib.hid (show RdI w2 (some ad) n ws by rw [← hw2]; exact HW1.out)
      have x0 := Ext.cell (show w2.cell? (pd.add (k * 2)) = some (.slice fA fl fc) by rw [← hw2]; exact hd0)
      have x1 := Ext.cell (show w2.cell? ⟨(pd.add (k * 2)).block, (pd.add (k * 2)).off + 1, none⟩ = some (.slice tA tl tc) by rw [← hw2]; exact hd1)
      rw [hw2]
      clear hw2 hd0 hd1 HTO1 HW1 v1 v2 E1
      go_wp2_with fail
      refine Mix.wp_region_mix [0, 0, 0, 0, 0, 3, 0, 0, 0, 0, 3, 1, 0, 0] (fun w' => ∃ x : Ext w2, w' = x.w) (by kernel_rfl) (by kernel_rfl) (InExt.drew _) ?_
      repeat (first | (refine Mix.wpMix_read (by rfl) ?_; go_big_quiet_step (fail); refine wpQuiet_nil ?_) | (refine Mix.wpMix_pure (by rfl) ?_; go_big_quiet_step (fail); refine wpQuiet_nil ?_))
      refine Mix.wpMix_chg (by rfl) (fun K hK => ?_)
      go_wp2_with fail
      refine (l03Put_c ad n c a fl ws tA tl tc r.2 R _ (by exact HW2.out) (by exact HTO2.out) (by omega) hnc (by omega) hat HRR2.out).mono ?_
      rintro e w3 ⟨A3, c3, rfl, hw3, hcap3, hb3⟩
      have E3 := Lib.hid (show Below w2.heap.size w2 w3 from below_of_drew hb3)
      have W3 := Lib.hid (show Wr w3 w2.heap.size w3.heap.size A3 R.length (R.map i64) from hw3)
      clear hw3 hb3
      go_wp2_with fail
      refine hK _ _ ⟨⟨_, E3.out⟩, rfl⟩ ?_
      clear hK K
      repeat (first | (refine Mix.wpMix_read (by rfl) ?_; go_big_quiet_step (fail); refine wpQuiet_nil ?_) | (refine Mix.wpMix_pure (by rfl) ?_; go_big_quiet_step (fail); refine wpQuiet_nil ?_))
      (refine Mix.wpMix_nil ?_; try simp only [Exit.then])
      clear x0 x1
      go_wp2_with fail
      go_ret2
      rw [ApOut, if_pos rfl, if_pos H4.out]
      exact ⟨A3, c3, rfl, W3.out.wider E2.out.size (Nat.le_refl _), hcap3, below_chain E2.out E2.out.size E3.out⟩
    · have g4 : decide ((400 : Int) < (n : Int) - (fl : Int) + (tl : Int)) = true := by rw [decide_eq_true_eq]; have := hRl.out; omega
      have H4 := Lib.hid h4
      clear h4
      go_wp2_with fail
      go_quiet (fail)
      go_wp2_with fail
      go_ret2
      rw [ApOut, if_pos rfl, if_neg H4.out]
      exact ⟨rfl, below_drewN E1.out nq⟩
theorem info_u8 : (Try.prog.info? 5).map (fun i => (i.zero, i.size, i.bytes)) = some (some (.int .u8 0), 1, 1) := by kernel_rfl
theorem info_str : (Try.prog.info? 9).map (fun i => (i.zero, i.size, i.bytes)) = some (some (.string ⟨#[]⟩), 1, 16) := by kernel_rfl
set_option maxHeartbeats 2000000 in
set_option maxRecDepth 100000 in
theorem l10Key_c (A : Option Addr) (n c : Nat) (ws : List Int) (w : World) (h : RdI w A n ws) (hn : n ≤ 100000) :
    Calls Try.prog 74 #[.slice A n c] w fun e' w' => ∃ b, e' = .returned (.string b) ∧ Below w.heap.size w w' := by
  have H := Lib.hid h; clear h
  have hmk := run_mk (P := Try.prog) 131 5 (.int .u8 0) 1 Try.underlying131 info_u8 rfl .i64 .i64 n n (Nat.le_refl _) (by omega) (by omega)
  have O1 := Lib.hid (show Wr (w.alloc (.cells (Array.replicate n (.int .u8 0)) 5)) w.heap.size (w.heap.size + 1) (some ⟨w.heap.size, 0, none⟩) n ((List.replicate n (0 : Int)).map (Value.int .u8)) from (Blk.new w 5 (Array.replicate n (.int .u8 0))).wr (Nat.le_refl _) (by omega) (by simp) (by simp))
  go_enter Try.func74, Try.ntmps74
  go_wp2_with fail
  clear hmk
  go_loopw [4] (fun iv wr => ∃ (k : Nat) (ks : List Int), k ≤ n ∧ iv = .int .i64 k ∧ Hid (ks.length = n) ∧ Hid (Wr wr w.heap.size (w.heap.size + 1) (some ⟨w.heap.size, 0, none⟩) n (ks.map (Value.int .u8))) ∧ Below w.heap.size w wr) (fun iv _ => n - (intOf iv).toNat)
  case atStart => exact ⟨0, List.replicate n 0, by omega, rfl, by unfold Hid; simp, O1.out, below_size.alloc (Nat.le_refl _) _⟩
  case round =>
    clear O1
    obtain ⟨k, ks, hk, rfl, hl, hO, hb⟩ := hrel
    have HB := Lib.hid hb
    by_cases hlt : k < n
    · obtain ⟨ad, x, rfl, hab, hx, hcx⟩ := (H.out.below hb).at_ hlt
      obtain ⟨_, _, e1, _, _, _, hv, hcz, hfz⟩ := hO.out.at_ hlt
      injection e1 with e1; subst e1
      rw [head_add] at hcz hfz
      have HV := Lib.hid hv
      clear hb hx hv
      go_wp2_with fail
      go_roundw
      case rel =>
        refine ⟨k + 1, ks.set k (IntKind.u8.wrap x), by omega, by go_num, by have := hl.out; unfold Hid; rw [List.length_set]; exact this, ?_, HB.out.setCell (Nat.le_refl _) _⟩
        have h1 := hO.out.set hlt (.int .u8 (IntKind.u8.wrap x))
        rw [head_add] at h1
        unfold Hid
        rw [List.map_set]
        exact h1
      case measure => simp [intOf]; omega
    · obtain rfl : k = n := by omega
      have hcv := fun dst hd => run_convert_bytes_arg (P := Try.prog) wr 131 5 Try.underlying131 Try.underlying5 w.heap.size 0 k k ks hl.out (fun i hi => by
        obtain ⟨_, v, e1, _, _, _, hv, hc, _⟩ := hO.out.at_ hi
        injection e1 with e1; subst e1
        rw [head_add] at hc
        rw [Nat.zero_add, hc, ← hv, List.getElem?_map, List.getD_eq_getElem?_getD, List.getElem?_eq_getElem (by rw [hl.out]; exact hi)]
        rfl) dst hd
      have hcv2 := hcv 9 Try.underlying9
      clear hcv hb
      go_wp2_with fail
      go_ret
      exact ⟨_, rfl, HB.out⟩
/-- outside one block all is as it was -/
def Sole (A : Option Addr) (w w' : World) : Prop := ∀ b, b < w.heap.size → (∀ ad, A = some ad → ad.block ≠ b) → w'.heap[b]? = w.heap[b]?
set_option maxHeartbeats 2000000 in
set_option maxRecDepth 100000 in
theorem l10Add_c (g c B : Nat) (b : ByteArray) (w : World) (h : Own w B 9 1 (some ⟨g, 0, none⟩) 0 c []) (hB : B ≤ w.heap.size) :
    Calls Try.prog 73 #[.slice (some ⟨g, 0, none⟩) 0 c, .string b] w fun e' w' => ∃ A' c', e' = .returned (.tuple #[.slice A' 1 c', .bool true]) ∧ Below B w w' ∧ Sole (some ⟨g, 0, none⟩) w w' ∧ w.heap.size ≤ w'.heap.size := by
  have hgB : B ≤ g := (h.block rfl).1
  have H := Lib.hid h; clear h
  have hcp : ∀ (d a : Option Addr) (dl dc sl sc : Nat) (w : World), Nat.min sl dl = 0 → (Builtin.copy_ #[111, 111] 3 #[.slice d dl dc, .slice a sl sc]).run Try.prog w = .ok (goInt 0) w := fun d a dl dc sl sc w hz => run_copy_none (P := Try.prog) w 111 111 3 9 d a dl dc sl sc Try.underlying111 (by kernel_rfl) hz
  go_enter Try.func73, Try.ntmps73
  go_wp2_with fail
  go_loopw [6, 7] (fun lv hv wr => lv = .int .i64 0 ∧ hv = .int .i64 0 ∧ wr = w) (fun _ _ _ => 0)
  case atStart => exact ⟨rfl, rfl, rfl⟩
  case round =>
    obtain ⟨rfl, rfl, rfl⟩ := hrel
    go_wp2_with (at_builtin; refine wp_app1 (by rfl) _ _ 111 9 (.string ⟨#[]⟩) 16 (by rfl) Try.underlying111 info_str rfl B (some ⟨g, 0, none⟩) 0 c [] (by rfl) (by exact H.out.alloc _) wr.heap.size (.string ⟨#[]⟩) (by rfl) (by exact new_cell _ _ _ 0) rfl (by omega) (by omega) (by simp; omega) ?_; intro g' cap w3 own3 hb3 hk3 hg3 hz3)
    have O3 := Lib.hid own3; have B3 := Lib.hid hb3; have K3 := Lib.hid hk3; have Z3 := Lib.hid hz3; have G3 := Lib.hid hg3
    clear own3 hb3 hk3 hg3 hz3
    obtain ⟨_, _, e1, _, _, _, hv, hc0, hf0⟩ := O3.out.wr.at_ (k := 0) (by omega)
    injection e1 with e1; subst e1
    rw [head_add] at hc0 hf0
    have hgb : ∀ ad, some (⟨g', 0, none⟩ : Addr) = some ad → B ≤ ad.block := fun ad e => (O3.out.block e).1
    have hgB' : B ≤ g' := hgb _ rfl
    have hne : ∀ b, b < wr.heap.size → (∀ ad, some (⟨g, 0, none⟩ : Addr) = some ad → ad.block ≠ b) → b ≠ g' := fun b hb h1 => by
      have h2 := h1 _ rfl
      rcases G3.out with h3 | h3
      · injection h3 with h3; injection h3 with h3 _ _; subst h3; exact fun e => h2 e.symm
      · rw [World.size_alloc] at h3; omega
    have BZ := Lib.hid (show Below B wr w3 from ((below_size.alloc (Nat.le_refl _) (.cells #[.string ⟨#[]⟩] 9)).mono hB).trans B3.out)
    have KZ := Lib.hid (show Sole (some ⟨g, 0, none⟩) wr w3 from fun b hb h1 => (K3.out b (by rw [World.size_alloc]; omega) h1).trans (Below.heap_alloc wr _ b hb))
    have hzz : wr.heap.size ≤ w3.heap.size := by have := Z3.out; rw [World.size_alloc] at this; omega
    clear B3 K3 Z3 G3 hv
    by_cases hc1 : cap = 1
    · subst hc1
      skip
      go_wp2_with fail
      refine Mix.wp_region_mix [0, 0, 0, 0, 0, 0, 0, 1] (fun w' => ∃ x : Ext w3, w' = x.w) (by kernel_rfl) (by kernel_rfl) (InExt.drew _) ?_
      repeat (first | (refine Mix.wpMix_read (by rfl) ?_; go_big_quiet_step (fail); refine wpQuiet_nil ?_) | (refine Mix.wpMix_pure (by rfl) ?_; go_big_quiet_step (fail); refine wpQuiet_nil ?_))
      refine Mix.wpMix_chg (by rfl) (fun K hK => ?_)
      go_wp2_with fail
      refine hK _ _ ⟨⟨_, below_drew below_size⟩, rfl⟩ ?_
      clear hK K
      repeat (first | (refine Mix.wpMix_read (by rfl) ?_; go_big_quiet_step (fail); refine wpQuiet_nil ?_) | (refine Mix.wpMix_pure (by rfl) ?_; go_big_quiet_step (fail); refine wpQuiet_nil ?_))
      (refine Mix.wpMix_nil ?_; try simp only [Exit.then])
      have hd0 : w3.drew.cell? ⟨g', 0, none⟩ = _ := hc0
      have hd1 : w3.drew.frozen? ⟨g', 0, none⟩ = false := hf0
      clear hc0 hf0
      go_wp2_with fail
      go_ret2
      refine ⟨_, _, rfl, (below_drew BZ.out).setCell hgB' _, fun b hb h1 => ?_, by simpa using hzz⟩
      exact (Below.heap_setCell _ _ _ b (hne b hb h1)).trans (KZ.out b hb h1)
    · skip
      skip
      go_wp2_with fail
      refine Mix.wp_region_mix [0, 0, 0, 0, 0, 0, 0, 1] (fun w' => ∃ x : Ext w3, w' = x.w) (by kernel_rfl) (by kernel_rfl) (InExt.drew _) ?_
      repeat (first | (refine Mix.wpMix_read (by rfl) ?_; go_big_quiet_step (fail); refine wpQuiet_nil ?_) | (refine Mix.wpMix_pure (by rfl) ?_; go_big_quiet_step (fail); refine wpQuiet_nil ?_))
      refine Mix.wpMix_chg (by rfl) (fun K hK => ?_)
      go_wp2_with fail
      refine hK _ _ ⟨⟨_, below_drew below_size⟩, rfl⟩ ?_
      clear hK K
      repeat (first | (refine Mix.wpMix_read (by rfl) ?_; go_big_quiet_step (fail); refine wpQuiet_nil ?_) | (refine Mix.wpMix_pure (by rfl) ?_; go_big_quiet_step (fail); refine wpQuiet_nil ?_))
      (refine Mix.wpMix_nil ?_; try simp only [Exit.then])
      have hd0 : w3.drew.cell? ⟨g', 0, none⟩ = _ := hc0
      have hd1 : w3.drew.frozen? ⟨g', 0, none⟩ = false := hf0
      clear hc0 hf0
      go_wp2_with fail
      go_ret2
      refine ⟨_, _, rfl, (below_drew BZ.out).setCell hgB' _, fun b hb h1 => ?_, by simpa using hzz⟩
      exact (Below.heap_setCell _ _ _ b (hne b hb h1)).trans (KZ.out b hb h1)
/-- the words behind a word, the steps, whether none is too long -/
def NxOut (MV : Option (Nat × Nat × List Int)) (w : World) (e' : Ending) (w' : World) : Prop :=
  match MV with
  | none => ∃ O oc S sc, e' = .returned (.tuple #[.slice O 0 oc, .slice S 0 sc, .bool true]) ∧ Below w.heap.size w w'
  | some (k, a, R) =>
    if R.length ≤ 400 then ∃ O oc A cA S sc T, e' = .returned (.tuple #[.slice (some O) 1 oc, .slice (some S) 1 sc, .bool true]) ∧ w'.cell? O = some (.slice A R.length cA) ∧ RdI w' A R.length R ∧ (∀ ad, A = some ad → 0 < R.length → w.heap.size ≤ ad.block) ∧ R.length ≤ cA ∧ w'.cell? S = some (.slice (some T) 2 2) ∧ Wr w' w.heap.size w'.heap.size (some T) 2 ([(k : Int), (a : Int)].map i64) ∧ Below w.heap.size w w'
    else ∃ O oc S sc, e' = .returned (.tuple #[.slice O 0 oc, .slice S 0 sc, .bool false]) ∧ Below w.heap.size w w'
/-- the same inside the loops: nothing found yet -/
structure NxI (h : Nat) (ov sv fv zv : Value) (w : World) : Prop where
  o : ov = .slice (some ⟨h, 0, none⟩) 0 0
  s : sv = .slice (some ⟨h + 1, 0, none⟩) 0 0
  f : fv = .bool true
  z : zv = .slice (some ⟨h + 2, 0, none⟩) 0 0
  oo : Own w h 25 1 (some ⟨h, 0, none⟩) 0 0 []
  os : Own w h 25 1 (some ⟨h + 1, 0, none⟩) 0 0 []
  oz : Own w h 9 1 (some ⟨h + 2, 0, none⟩) 0 0 []
theorem NxI.keep {h : Nat} {ov sv fv zv : Value} {w w' : World} (i : NxI h ov sv fv zv w) (hb : Below w.heap.size w w') : NxI h ov sv fv zv w' := ⟨i.o, i.s, i.f, i.z, i.oo.keep hb, i.os.keep hb, i.oz.keep hb⟩
/-- .. the one word is found -/
def NxD (h : Nat) (MV : Option (Nat × Nat × List Int)) (ov sv fv : Value) (w : World) : Prop :=
  ∃ k a R, MV = some (k, a, R) ∧
    if R.length ≤ 400 then ∃ O oc A cA S sc T, ov = .slice (some O) 1 oc ∧ sv = .slice (some S) 1 sc ∧ fv = .bool true ∧ w.cell? O = some (.slice A R.length cA) ∧ RdI w A R.length R ∧ (∀ ad, A = some ad → 0 < R.length → h ≤ ad.block) ∧ R.length ≤ cA ∧ w.cell? S = some (.slice (some T) 2 2) ∧ Wr w h w.heap.size (some T) 2 ([(k : Int), (a : Int)].map i64)
    else ∃ O oc S sc, ov = .slice O 0 oc ∧ sv = .slice S 0 sc ∧ fv = .bool false
theorem NxD.keep {h : Nat} {MV : Option (Nat × Nat × List Int)} {ov sv fv : Value} {w w' : World} (i : NxD h MV ov sv fv w) (hb : Below w.heap.size w w') : NxD h MV ov sv fv w' := by
  obtain ⟨k, a, R, e, h1⟩ := i
  refine ⟨k, a, R, e, ?_⟩
  split at h1
  · rename_i h4
    obtain ⟨O, oc, A, cA, S, sc, T, e1, e2, e3, h2, h3, h8, h5, h6, h7⟩ := h1
    rw [if_pos h4]
    exact ⟨O, oc, A, cA, S, sc, T, e1, e2, e3, keepc hb h2, RdI.below h3 hb, h8, h5, keepc hb h6, (h7.below hb).wider (Nat.le_refl _) hb.size⟩
  · rename_i h4
    rw [if_neg h4]; exact h1
def NxS (h : Nat) (d : Bool) (MV : Option (Nat × Nat × List Int)) (ov sv fv zv : Value) (w : World) : Prop := if d = true then NxD h MV ov sv fv w else NxI h ov sv fv zv w
theorem NxS.keep {h : Nat} {d : Bool} {MV : Option (Nat × Nat × List Int)} {ov sv fv zv : Value} {w w' : World} (i : NxS h d MV ov sv fv zv w) (hb : Below w.heap.size w w') : NxS h d MV ov sv fv zv w' := by
  cases d
  · exact NxI.keep i hb
  · exact NxD.keep i hb
/-- is the one step behind us? -/
def pastB (MV : Option (Nat × Nat × List Int)) (k a : Nat) : Bool :=
  match MV with
  | none => false
  | some x => decide (x.1 < k) || (decide (x.1 = k) && decide (x.2.1 < a))
theorem pastB_at {k a : Nat} {R : List Int} : pastB (some (k, a, R)) k a = false := by simp [pastB]
theorem pastB_next {MV : Option (Nat × Nat × List Int)} {k a : Nat} (h : ¬ ∃ R, MV = some (k, a, R)) : pastB MV k (a + 1) = pastB MV k a := by
  cases MV with
  | none => rfl
  | some x =>
    obtain ⟨k', a', R⟩ := x
    have hne : ¬ (k' = k ∧ a' = a) := fun e => h ⟨R, by rw [e.1, e.2]⟩
    simp only [pastB]
    by_cases h1 : k' < k
    · simp [h1]
    · by_cases h2 : k' = k
      · have : (a' < a + 1) ↔ (a' < a) := by omega
        simp [h2, this]
      · simp [h1, h2]
theorem pastB_row {MV : Option (Nat × Nat × List Int)} {k n : Nat} (h : ∀ k a R, MV = some (k, a, R) → a ≤ n) : pastB MV k (n + 1) = pastB MV (k + 1) 0 := by
  cases MV with
  | none => rfl
  | some x =>
    obtain ⟨k', a', R⟩ := x
    have ha := h _ _ _ rfl
    simp only [pastB]
    by_cases h1 : k' < k
    · have : k' < k + 1 := by omega
      simp [h1, this]
    · by_cases h2 : k' = k
      · have : k' < k + 1 := by omega
        have h3 : a' < n + 1 := by omega
        simp [h2, h3]
      · have : ¬ k' < k + 1 := by omega
        simp [h1, h2, this]
theorem own_cell1 {w : World} {B c : Nat} {e : TypeId} {g : Nat} {u : Value} (h : Own w B e 1 (some ⟨g, 0, none⟩) 1 c [u]) : w.cell? ⟨g, 0, none⟩ = some u := by
  obtain ⟨_, _, e1, _, _, _, hv, hc, _⟩ := h.wr.at_ (k := 0) (by omega)
  injection e1 with e1; subst e1
  rw [head_add] at hc
  simp at hv; subst hv; exact hc

section
variable {w w' : World} {B k n c lo hi hi' : Nat} {e : TypeId} {A A2 : Option Addr} {vs : List Value}
theorem Own.sole (h : Own w B e k A n c vs) (hs : Sole A2 w w') (hne : ∀ ad ad2, A = some ad → A2 = some ad2 → ad2.block ≠ ad.block) : Own w' B e k A n c vs :=
  h.move fun ad ha => hs _ (h.block ha).2.1 fun ad2 h2 => hne ad ad2 ha h2
theorem Rd.sole (h : Rd w A n vs) (hs : Sole A2 w w') (hne : ∀ ad ad2, A = some ad → A2 = some ad2 → 0 < n → ad2.block ≠ ad.block) (hz : w.heap.size ≤ w'.heap.size) : Rd w' A n vs :=
  Rd.atBlk h (fun a ha hn => hs _ (Rd.blocks h a hn ha) fun ad2 h2 => hne a ad2 ha h2 hn) hz
theorem Wr.sole (h : Wr w lo hi A n vs) (hs : Sole A2 w w') (hne : ∀ ad ad2, A = some ad → A2 = some ad2 → 0 < n → ad2.block ≠ ad.block) (hz : w.heap.size ≤ w'.heap.size) (hh : hi ≤ hi') : Wr w' lo hi' A n vs :=
  h.move (fun ad hn ea => hs _ (Rd.blocks h.rd ad hn ea) fun ad2 h2 => hne ad ad2 ea h2 hn) hz hh
theorem Sole.trans {w1 w2 w3 : World} (h : Sole A w1 w2) (h' : Sole A w2 w3) (hz : w1.heap.size ≤ w2.heap.size) : Sole A w1 w3 := fun b hb hne => (h' b (by omega) hne).trans (h b hb hne)
end
theorem g_ge {h g q l : Nat} (hg : some (⟨h, 0, none⟩ : Addr) = some ⟨g, 0, none⟩ ∨ g = q) (hq : l ≤ q) : g = h ∨ l ≤ g := by
  rcases hg with h1 | h1
  · injection h1 with h1; injection h1 with h1 _ _; exact .inl h1.symm
  · exact .inr (by omega)
theorem info_I64Sn : (Try.prog.info? 25).map (fun i => (i.zero, i.size, i.bytes)) = some (some (.slice none 0 0), 1, 24) := by kernel_rfl
set_option maxHeartbeats 8000000 in
set_option maxRecDepth 100000 in
theorem l10Next_c (s e : Int) (P : Option Addr) (m pc : Nat) (ts : List RwT) (X : List Rw) (A : Option Addr) (n c : Nat) (ws : List Int) (MV : Option (Nat × Nat × List Int)) (w : World) (hL : RwD w P m ts) (hX : ts.map datR = X) (hg : ∀ r ∈ X, GoodR s e r) (hd : X.Pairwise Dif) (hlb : ∀ r ∈ X, LastB (stB s e) r) (h : RdI w A n ws) (hw : ∃ j, OneS (stB s e) ws j) (hn : n ≤ 400) (hnc : n ≤ c) (hm : m ≤ 60) (hMV : moveR (stB s e) ws X 0 = MV) :
    Calls Try.prog 61 #[.slice P m pc, .slice A n c] w (NxOut MV w) := by
  obtain ⟨j, hj⟩ := hw
  have hwl := h.len
  have hn1 : 1 ≤ n := by have := hj.pos; omega
  have HOC := Lib.hid (occ_iff hj hd hlb hMV)
  have hXl : X.length = m := by rw [← hX, List.length_map]; exact hL.len
  have HG2 := Lib.hid (show ∀ r ∈ X, (1 ≤ r.1.length ∧ r.1.length ≤ 5) ∧ r.2.length ≤ 5 from fun r hr => by
    obtain ⟨i, hi⟩ := (hg r hr).fr
    exact ⟨⟨hi.pos, (hg r hr).sz.1⟩, (hg r hr).sz.2⟩)
  have HMB := Lib.hid (show ∀ k a R, MV = some (k, a, R) → k < m ∧ a ≤ n ∧ ∀ r, X[k]? = some r → R = ws.take a ++ (r.2 ++ ws.drop (a + r.1.length)) from fun k a R e1 => by
    obtain ⟨r, _, hr, hp, hR⟩ := moveR_some (hMV.trans e1)
    rw [Nat.sub_zero] at hr
    have h1 := hp.length_le
    rw [List.length_drop, hwl] at h1
    have h2 := (HG2.out r (List.mem_of_getElem? hr)).1.1
    have h3 := (List.getElem?_eq_some_iff.1 hr).1
    exact ⟨by omega, by omega, fun r' hr' => by rw [hr] at hr'; injection hr' with hr'; subst hr'; exact hR⟩)
  obtain ⟨ad, _, rfl, _, _, _⟩ := RdI.at_ h (k := 0) (by omega)
  obtain ⟨w1, hw1⟩ : ∃ w1, ((w.alloc (.cells #[] 25)).alloc (.cells #[] 25)).alloc (.cells #[] 9) = w1 := ⟨_, rfl⟩
  have E1 := Lib.hid (show Below w.heap.size w w1 by rw [← hw1]; exact ((below_size.alloc (Nat.le_refl _) _).alloc (by simp) _).alloc (by simp; omega) _)
  have N1 := Lib.hid (show NxI w.heap.size (.slice (some ⟨w.heap.size, 0, none⟩) 0 0) (.slice (some ⟨w.heap.size + 1, 0, none⟩) 0 0) (.bool true) (.slice (some ⟨w.heap.size + 2, 0, none⟩) 0 0) w1 by
    have o1 : Own (w.alloc (.cells #[] 25)) w.heap.size 25 1 (some ⟨w.heap.size, 0, none⟩) 0 0 [] := Own.litK (Nat.le_refl _)
    have o2 : Own ((w.alloc (.cells #[] 25)).alloc (.cells #[] 25)) w.heap.size 25 1 (some ⟨w.heap.size + 1, 0, none⟩) 0 0 [] := by
      have := Own.litK (w := w.alloc (.cells #[] 25)) (B := w.heap.size) (k := 1) (e := 25) (by simp)
      rwa [World.size_alloc] at this
    have o3 : Own (((w.alloc (.cells #[] 25)).alloc (.cells #[] 25)).alloc (.cells #[] 9)) w.heap.size 9 1 (some ⟨w.heap.size + 2, 0, none⟩) 0 0 [] := by
      have := Own.litK (w := (w.alloc (.cells #[] 25)).alloc (.cells #[] 25)) (B := w.heap.size) (k := 1) (e := 9) (by simp; omega)
      rwa [World.size_alloc, World.size_alloc] at this
    rw [← hw1]
    exact ⟨rfl, rfl, rfl, rfl, (o1.alloc _).alloc _, o2.alloc _, o3⟩)
  have H := Lib.hid h; have HD := Lib.hid hL; have HX := Lib.hid hX; have HXL := Lib.hid hXl
  clear h hL hX hg hd hlb hMV hj hwl hXl
  go_enter Try.func61, Try.ntmps61
  go_wp2_with fail
  clear hw1
  go_loopw [7, 8, 9, 10, 11] (fun ov sv fv zv kv wr => ∃ (k : Nat) (d : Bool), k ≤ m ∧ kv = .int .i64 k ∧ Hid (d = pastB MV k 0) ∧ Hid (NxS w.heap.size d MV ov sv fv zv wr) ∧ Below w.heap.size w wr) (fun _ _ _ _ kv _ => m - (intOf kv).toNat)
  case atStart => exact ⟨0, false, by omega, rfl, by unfold Hid; cases MV <;> simp [pastB], N1.out, E1.out⟩
  case round =>
    clear N1 E1
    obtain ⟨k, d, hk, rfl, hpd, hS, hb⟩ := hrel
    have HB := Lib.hid hb
    by_cases hlt : k < m
    · obtain ⟨r, hr⟩ : ∃ r, X[k]? = some r := ⟨X[k]'(by rw [HXL.out]; exact hlt), List.getElem?_eq_getElem _⟩
      have HRK := Lib.hid hr
      clear hb hr
      obtain ⟨wo, rfl⟩ : ∃ wo : World, wo = wr := ⟨_, rfl⟩
      go_wp2_with fail
      go_loopw [7, 8, 9, 10, 12] (fun ov sv fv zv av wr => ∃ (a : Nat) (d : Bool), a ≤ n + 1 ∧ av = .int .i64 a ∧ Hid (d = pastB MV k a) ∧ Hid (NxS w.heap.size d MV ov sv fv zv wr) ∧ Below w.heap.size w wr) (fun _ _ _ _ av _ => n + 1 - (intOf av).toNat)
      case atStart => exact ⟨0, d, by omega, rfl, hpd.out, hS.out, HB.out⟩
      case round =>
        clear hpd hS HB
        obtain ⟨a, d, ha, rfl, hpd, hS, hb⟩ := hrel
        have HB := Lib.hid hb
        have HDr := Lib.hid (HD.out.below hb); have Hr := Lib.hid (RdI.below H.out hb)
        clear hb
        by_cases han : a ≤ n
        · have ga : decide ((a : Int) ≤ (n : Int)) = true := by rw [decide_eq_true_eq]; omega
          obtain ⟨R, hR⟩ : ∃ R, ws.take a ++ (r.2 ++ ws.drop (a + r.1.length)) = R := ⟨_, rfl⟩
          obtain ⟨q, hq⟩ : ∃ q, decide (r.1 <+: ws.drop a) = q := ⟨_, rfl⟩
          have HQ := Lib.hid hq; have HR := Lib.hid hR
          have HAP := Lib.hid (l10Apply_c P m pc ts X ad n c ws k a r R q wr HDr.out HX.out HG2.out Hr.out hn hnc hm HRK.out han hq hR)
          clear hR
          cases q
          · have HN := Lib.hid (show d = pastB MV k (a + 1) by
              rw [pastB_next fun hx => absurd ((HOC.out k a r HRK.out).2 hx) (of_decide_eq_false hq)]; exact hpd.out)
            clear hq
            go_wp2_with fail
            refine HAP.out.mono ?_
            intro e' w2 hap
            rw [ApOut, if_neg (by simp)] at hap
            obtain ⟨rfl, hb2⟩ := hap
            have HB2 := Lib.hid hb2
            clear hb2 HAP
            go_wp2_with fail
            go_roundw
            case rel => exact ⟨a + 1, d, by omega, by go_num, HN.out, hS.out.keep HB2.out, below_chain HB.out HB.out.size HB2.out⟩
            case measure => simp [intOf]; omega
          · obtain ⟨R', hMV⟩ := (HOC.out k a r HRK.out).1 (of_decide_eq_true hq)
            have hRR : R' = R := by rw [(HMB.out k a R' hMV).2.2 r HRK.out]; exact HR.out
            subst hRR
            have hd0 : d = false := by rw [hpd.out, hMV]; exact pastB_at
            subst hd0
            have hI : NxI w.heap.size u7 u8 u9 u10 wr := hS.out
            obtain ⟨rfl, rfl, rfl, rfl, oo, os, oz⟩ := hI
            have OO := Lib.hid oo; have OS := Lib.hid os; have OZ := Lib.hid oz
            have hz : w.heap.size + 2 < wr.heap.size := (oz.block rfl).2.1
            have HMV := Lib.hid hMV
            have HN := Lib.hid (show true = pastB MV k (a + 1) by rw [hMV]; simp [pastB])
            clear hq hMV hS hpd oo os oz
            go_wp2_with fail
            refine HAP.out.mono ?_
            intro e' w2 hap
            clear HAP
            rw [ApOut, if_pos rfl] at hap
            by_cases h4 : R'.length ≤ 400
            · rw [if_pos h4] at hap
              obtain ⟨A2, c2, rfl, hw2, hc2, hb2⟩ := hap
              obtain ⟨rl, hrl⟩ : ∃ rl, R'.length = rl := ⟨_, rfl⟩
              rw [hrl] at hw2 hc2 h4 ⊢
              have HRL := Lib.hid hrl
              have W2 := Lib.hid hw2; have B2 := Lib.hid hb2
              clear hw2 hb2 hrl
              go_wp2_with fail
              refine (l10Key_c A2 rl c2 R' w2 W2.out.rdI (by omega)).mono ?_
              rintro e' w3 ⟨b, rfl, hb3⟩
              have B3 := Lib.hid (below_chain B2.out B2.out.size hb3)
              have W3 := Lib.hid ((W2.out.below hb3).wider (Nat.le_refl _) hb3.size)
              have hz3 := B3.out.size
              clear hb3 W2 B2
              go_wp2_with fail
              refine (l10Add_c (w.heap.size + 2) 0 w.heap.size b w3 (OZ.out.keep B3.out) (by omega)).mono ?_
              rintro e' w4 ⟨A4, c4, rfl, hb4, hs4, hz4⟩
              have lo2 : ∀ a, A2 = some a → 0 < rl → wr.heap.size ≤ a.block := fun a ha h0 => by
                obtain ⟨a', e1, h1, _⟩ := W3.out.2 h0
                rw [ha] at e1; injection e1 with e1; subst e1; exact h1
              have HLO := Lib.hid lo2
              have R4 := Lib.hid (show RdI w4 A2 rl R' from Rd.sole W3.out.rd hs4 (fun ad1 ad2 e1 e2 h0 => by injection e2 with e2; subst e2; have := lo2 ad1 e1 h0; show w.heap.size + 2 ≠ ad1.block; omega) hz4)
              have OO4 := Lib.hid ((OO.out.keep B3.out).sole hs4 (fun ad1 ad2 e1 e2 => by injection e1 with e1; injection e2 with e2; subst e1; subst e2; show w.heap.size + 2 ≠ w.heap.size; omega))
              have OS4 := Lib.hid ((OS.out.keep B3.out).sole hs4 (fun ad1 ad2 e1 e2 => by injection e1 with e1; injection e2 with e2; subst e1; subst e2; show w.heap.size + 2 ≠ w.heap.size + 1; omega))
              have B4 := Lib.hid ((HB.out.trans (B3.out.mono HB.out.size)).trans hb4)
              have hz4' : w.heap.size + 2 < w4.heap.size := by omega
              clear hb4 hs4 lo2 W3 OO OS OZ
              go_wp2_with (first
                | (at_builtin; refine wp_app1 (by rfl) _ _ 43 25 (.slice none 0 0) 24 (by rfl) Try.underlying43 info_I64Sn rfl w.heap.size (some ⟨w.heap.size, 0, none⟩) 0 0 [] (by rfl) (by exact OO4.out.alloc _) w4.heap.size (.slice A2 rl c2) (by rfl) (by exact new_cell _ _ _ 0) rfl (by omega) (by omega) (by simp; omega) ?_; intro g5 cap5 w5 own5 hb5 hk5 hg5 hz5; have O5 := Lib.hid own5; have hzq : w4.heap.size + 1 ≤ w5.heap.size := (by rw [World.size_alloc] at hz5; exact hz5); have OS5 := Lib.hid (Own.sole (OS4.out.alloc (.cells #[.slice A2 rl c2] 25)) hk5 (fun ad1 ad2 e1 e2 => by injection e1 with e1; injection e2 with e2; subst e1; subst e2; show w.heap.size ≠ w.heap.size + 1; omega)); have R5 := Lib.hid (show RdI w5 A2 rl R' from Rd.sole (Rd.alloc R4.out (.cells #[.slice A2 rl c2] 25)) hk5 (fun ad1 ad2 e1 e2 h0 => by injection e2 with e2; subst e2; have := HLO.out ad1 e1 h0; show w.heap.size ≠ ad1.block; omega) hz5); have B5 := Lib.hid ((B4.out.alloc (by omega) (.cells #[.slice A2 rl c2] 25)).trans hb5); have HG5 := Lib.hid (show g5 = w.heap.size ∨ w4.heap.size ≤ g5 from g_ge hg5 (by rw [World.size_alloc]; omega)); clear own5 hb5 hk5 hg5 hz5)
                | (at_builtin; refine wp_app1 (by rfl) _ _ 43 25 (.slice none 0 0) 24 (by rfl) Try.underlying43 info_I64Sn rfl w.heap.size (some ⟨w.heap.size + 1, 0, none⟩) 0 0 [] (by rfl) (by exact (OS5.out.alloc _).alloc _) (w5.heap.size + 1) (.slice (some ⟨w5.heap.size, 0, none⟩) 2 2) (by rfl) (by first | exact new_cell _ _ _ 0 | (have := new_cell (w5.alloc (.cells #[.int .i64 k, .int .i64 a] 2)) #[.slice (some ⟨w5.heap.size, 0, none⟩) 2 2] 25 0; rwa [World.size_alloc] at this)) rfl (by omega) (by omega) (by simp; omega) ?_; intro g6 cap6 w6 own6 hb6 hk6 hg6 hz6))
              have HG6 := Lib.hid (g_ge (l := w.heap.size) hg6 (by rw [World.size_alloc, World.size_alloc]; omega))
              obtain ⟨wq, hwq⟩ : ∃ wq, (w5.alloc (.cells #[.int .i64 k, .int .i64 a] 2)).alloc (.cells #[.slice (some ⟨w5.heap.size, 0, none⟩) 2 2] 25) = wq := ⟨_, rfl⟩
              have Bq := Lib.hid (show Below w5.heap.size w5 wq by rw [← hwq]; exact (below_size.alloc (Nat.le_refl _) _).alloc (by simp) _)
              have hqz : wq.heap.size = w5.heap.size + 2 := by rw [← hwq]; simp
              have KT := Lib.hid (show Blk wq w5.heap.size 2 #[.int .i64 k, .int .i64 a] by rw [← hwq]; exact (Blk.new _ _ _).alloc _)
              rw [hwq] at hb6 hk6 hz6
              have hS6 : Sole (some ⟨w.heap.size + 1, 0, none⟩) wq w6 := hk6
              have O6 := Lib.hid own6
              have B6 := Lib.hid ((B5.out.trans (Bq.out.mono B5.out.size)).trans hb6)
              have O56 := Lib.hid ((O5.out.keep Bq.out).sole hS6 (fun ad1 ad2 e1 e2 => by injection e1 with e1; injection e2 with e2; subst e1; subst e2; have := HG5.out; show w.heap.size + 1 ≠ g5; omega))
              have R6 := Lib.hid (show RdI w6 A2 rl R' from Rd.sole (Rd.below R5.out Bq.out) hS6 (fun ad1 ad2 e1 e2 h0 => by injection e2 with e2; subst e2; have := HLO.out ad1 e1 h0; show w.heap.size + 1 ≠ ad1.block; omega) hz6)
              have T6 := Lib.hid (show Wr w6 w.heap.size w6.heap.size (some ⟨w5.heap.size, 0, none⟩) 2 ([(k : Int), (a : Int)].map i64) from Wr.sole (KT.out.wr (lo := w.heap.size) (hi := wq.heap.size) (by omega) (by omega) rfl (by simp)) hS6 (fun ad1 ad2 e1 e2 h0 => by injection e1 with e1; injection e2 with e2; subst e1; subst e2; show w.heap.size + 1 ≠ w5.heap.size; omega) hz6 hz6)
              have C5 := Lib.hid (own_cell1 O56.out); have C6 := Lib.hid (own_cell1 O6.out)
              have H4 := Lib.hid h4
              clear own6 hb6 hk6 hg6 hS6 hwq h4
              go_roundw
              case rel => exact ⟨a + 1, true, by omega, by go_num, HN.out, ⟨k, a, R', HMV.out, by rw [if_pos (by rw [HRL.out]; exact H4.out)]; exact ⟨⟨g5, 0, none⟩, cap5, A2, c2, ⟨g6, 0, none⟩, cap6, ⟨w5.heap.size, 0, none⟩, rfl, rfl, rfl, by rw [HRL.out]; exact C5.out, by rw [HRL.out]; exact R6.out, (fun ad e1 h0 => by rw [HRL.out] at h0; have h1 := HLO.out ad e1 h0; omega), by rw [HRL.out]; exact hc2, C6.out, T6.out⟩⟩, B6.out⟩
              case measure => simp [intOf]; omega
            · rw [if_neg h4] at hap
              obtain ⟨rfl, hb2⟩ := hap
              have HB2 := Lib.hid hb2; have H4 := Lib.hid h4
              clear hb2 h4
              go_wp2_with fail
              go_roundw
              case rel => exact ⟨a + 1, true, by omega, by go_num, HN.out, ⟨k, a, R', HMV.out, by rw [if_neg H4.out]; exact ⟨_, _, _, _, rfl, rfl, rfl⟩⟩, below_chain HB.out HB.out.size HB2.out⟩
              case measure => simp [intOf]; omega
        · have ga : decide ((a : Int) ≤ (n : Int)) = false := by rw [decide_eq_false_iff_not]; omega
          obtain rfl : a = n + 1 := by omega
          have HN := Lib.hid (show d = pastB MV (k + 1) 0 by rw [← pastB_row fun k a R e1 => (HMB.out k a R e1).2.1]; exact hpd.out)
          go_wp2_with fail
          go_roundw
          case rel => exact ⟨k + 1, d, by omega, by go_num, HN.out, hS.out, HB.out⟩
          case measure => simp [intOf]; omega
    · obtain rfl : k = m := by omega
      clear hb
      go_wp2_with fail
      go_ret3
      have hS2 := hS.out; have hp2 := hpd.out
      clear hS hpd
      cases d
      · obtain ⟨rfl, rfl, rfl, _, _, _, _⟩ := (show NxI w.heap.size u7 u8 u9 u10 wr from hS2)
        cases MV with
        | none => exact ⟨_, _, _, _, rfl, HB.out⟩
        | some x =>
          obtain ⟨k0, a0, R0⟩ := x
          have := (HMB.out k0 a0 R0 rfl).1
          simp [pastB, this] at hp2
      · obtain ⟨k0, a0, R0, rfl, h9⟩ := (show NxD w.heap.size MV u7 u8 u9 wr from hS2)
        rw [NxOut]
        split at h9
        · rename_i h4
          obtain ⟨O, oc, A3, cA, S, sc, T, rfl, rfl, rfl, q1, q2, q6, q3, q4, q5⟩ := h9
          rw [if_pos h4]
          exact ⟨O, oc, A3, cA, S, sc, T, rfl, q1, q2, q6, q3, q4, q5, HB.out⟩
        · rename_i h4
          obtain ⟨O, oc, S, sc, rfl, rfl, rfl⟩ := h9
          rw [if_neg h4]
          exact ⟨O, oc, S, sc, rfl, HB.out⟩

def stepL (x : Nat × Nat) : List Int := [(x.1 : Int), (x.2 : Int)]
def lenV : Value → Nat
  | .slice _ n _ => n
  | _ => 0
/-- the last word, the steps, whether there is no further one, whether all words are short enough -/
def RlOut (RV : Option (List Int × List (Nat × Nat) × Bool)) (w : World) (e' : Ending) (w' : World) : Prop :=
  match RV with
  | none => e' = .returned (.tuple #[.slice none 0 0, .slice none 0 0, .bool false, .bool false]) ∧ Below w.heap.size w w'
  | some (t, rows, q) => ∃ A n c O oc its, e' = .returned (.tuple #[.slice A n c, .slice O rows.length oc, .bool q, .bool true]) ∧ RdI w' A n t ∧ n ≤ c ∧ n ≤ 400 ∧ WrS w' w.heap.size w'.heap.size (sgII O rows.length its) ∧ its.map It.xs = rows.map stepL ∧ (∀ t ∈ its, t.n = 2) ∧ Below w.heap.size w w'
set_option maxHeartbeats 8000000 in
set_option maxRecDepth 100000 in
theorem l16Run_c (s e : Int) (P : Option Addr) (m pc : Nat) (ts : List RwT) (X : List Rw) (WA : Option Addr) (n c : Nat) (ws : List Int) (most : Nat) (RV : Option (List Int × List (Nat × Nat) × Bool)) (w : World) (hL : RwD w P m ts) (hX : ts.map datR = X) (hg : ∀ r ∈ X, GoodR s e r) (hd : X.Pairwise Dif) (hlb : ∀ r ∈ X, LastB (stB s e) r) (h : RdI w WA n ws) (hw : ∃ j, OneS (stB s e) ws j) (hn : n ≤ 400) (hnc : n ≤ c) (hm : m ≤ 60) (hmost : most ≤ 100000) (hRV : runL (stB s e) X most ws [] = RV) :
    Calls Try.prog 41 #[.slice P m pc, .slice WA n c, .int .i64 most] w (RlOut RV w) := by
  have H := Lib.hid h; have HD := Lib.hid hL
  have HX := Lib.hid hX; have HG := Lib.hid hg; have HRV := Lib.hid hRV; have HW := Lib.hid hw; have HDF := Lib.hid hd; have HLB := Lib.hid hlb
  clear h hL hX hg hRV hw hd hlb
  go_enter Try.func41, Try.ntmps41
  go_wp2_with fail
  go_loopw [10, 11] (fun xv rv wr => ∃ (b : Nat) (A : Option Addr) (l c' : Nat) (us : List Int) (j : Nat) (O : Option Addr) (oc : Nat) (rows : List (Nat × Nat)) (its : List It), j + b = most ∧ Hid (rows.length = j) ∧ xv = .slice A l c' ∧ rv = .slice O j oc ∧ l ≤ 400 ∧ l ≤ c' ∧ Hid (RdI wr A l us) ∧ Hid (∃ j, OneS (stB s e) us j) ∧ Hid (runL (stB s e) X b us rows = RV) ∧ Hid (OwnS wr w.heap.size 25 1 O j oc (its.map hdI) (its.map bodyI)) ∧ Hid (its.map It.xs = rows.map stepL) ∧ Hid (∀ t ∈ its, t.n = 2) ∧ Below w.heap.size w wr) (fun _ rv _ => most - lenV rv)
  case atStart => exact ⟨most, WA, n, c, ws, 0, _, 0, [], [], by omega, rfl, rfl, rfl, hn, hnc, RdI.alloc H.out _, HW.out, HRV.out, OwnS.nil (Own.litK (Nat.le_refl _)), rfl, (by intro t ht; cases ht), below_size.alloc (Nat.le_refl _) _⟩
  case round =>
    obtain ⟨b, A, l, c', us, j, O, oc, rows, its, hjb, hrl, rfl, rfl, hl4, hlc, hR, hO, hV, hOS, hIX, hI2, hb⟩ := hrel
    have HB := Lib.hid hb
    obtain ⟨MV, hMV⟩ : ∃ MV, moveR (stB s e) us X 0 = MV := ⟨_, rfl⟩
    have HV := Lib.hid (show runLK (stB s e) X b us rows MV = RV by rw [← hV.out, ← hMV, runL_eq])
    have HMV := Lib.hid hMV
    have HDr := Lib.hid (HD.out.below hb)
    have HJB := Lib.hid hjb
    have hwz := hb.size
    have hjm : j ≤ most := by omega
    clear hV hb hMV hjb
    go_wp2_with fail
    refine (l10Next_c s e P m pc ts X A l c' us MV wr HDr.out HX.out HG.out HDF.out HLB.out hR.out hO.out hl4 hlc hm HMV.out).mono ?_
    intro e' w2 hnx
    rcases MV with _ | ⟨k2, a, R⟩
    · obtain ⟨O2, oc2, S2, sc2, rfl, hb2⟩ := hnx
      have HB2 := Lib.hid hb2
      have HV2 := Lib.hid (show some (us, rows, true) = RV from HV.out)
      clear hb2
      go_wp2_with fail
      refine bodyPost_ret (v := .tuple #[.slice A l c', .slice O j oc, .bool true, .bool true]) (by simp [results, Try.results41, go_sem]) rfl ?_
      rw [← HV2.out]
      refine ⟨A, l, c', O, oc, its, by rw [hrl.out], RdI.below hR.out HB2.out, hlc, hl4, ?_, hIX.out, hI2.out, below_chain HB.out HB.out.size HB2.out⟩
      rw [hrl.out]; exact (hOS.out.keep HB2.out).wrII
    · rw [NxOut] at hnx
      by_cases h4 : R.length ≤ 400
      · rw [if_pos h4] at hnx
        obtain ⟨O2, oc2, A2, cA, S2, sc2, T, rfl, hcO, hRR, hAlo, hcA, hcS, hWT, hb2⟩ := hnx
        obtain ⟨rl, hrl2⟩ : ∃ rl, R.length = rl := ⟨_, rfl⟩
        rw [hrl2] at hcO hRR hAlo hcA h4
        have HLO := Lib.hid hAlo
        have HRL := Lib.hid hrl2
        have HB2 := Lib.hid hb2; have RR2 := Lib.hid hRR; have WT := Lib.hid hWT
        have hz2 := hb2.size
        clear hb2 hRR hWT hrl2 hAlo
        by_cases hb0 : b = 0
        · have hj : j = most := by have := HJB.out; omega
          have HV2 := Lib.hid (show some (us, rows, false) = RV by rw [← HV.out, runLK, if_pos hb0])
          have g0 : ((j : Int) == (most : Int)) = true := by simp [hj]
          have HJ := Lib.hid hj
          clear hj hb0 hcO hcS
          go_wp2_with fail
          refine bodyPost_ret (v := .tuple #[.slice A l c', .slice O j oc, .bool false, .bool true]) (by simp [results, Try.results41, go_sem]) rfl ?_
          rw [← HV2.out]
          refine ⟨A, l, c', O, oc, its, by rw [hrl.out], RdI.below hR.out HB2.out, hlc, hl4, ?_, hIX.out, hI2.out, below_chain HB.out HB.out.size HB2.out⟩
          rw [hrl.out]; exact (hOS.out.keep HB2.out).wrII
        · have g0 : ((j : Int) == (most : Int)) = false := by simp; have := HJB.out; omega
          have HV2 := Lib.hid (show runL (stB s e) X (b - 1) R (rows ++ [(k2, a)]) = RV by rw [← HV.out, runLK, if_neg hb0, if_pos (by rw [HRL.out]; exact h4)])
          obtain ⟨b', rfl⟩ : ∃ b', b = b' + 1 := ⟨b - 1, by omega⟩
          obtain ⟨r, hr1, hr2, hp, hRR⟩ := moveR_some HMV.out
          rw [Nat.sub_zero] at hr2
          have HO3 := Lib.hid (show ∃ j, OneS (stB s e) R j by
            have hgr := HG.out r (List.mem_of_getElem? hr2)
            obtain ⟨j, hj⟩ := hO.out
            obtain ⟨i, hi⟩ := hgr.fr
            obtain ⟨i', hi'⟩ := hgr.to
            rw [hRR]; exact ⟨_, hj.put hi hi' hp⟩)
          have OS2 := Lib.hid (hOS.out.keep HB2.out)
          clear hr1 hr2 hp hRR
          go_wp2_with (at_builtin; refine wp_app1 (by rfl) _ _ 43 25 (.slice none 0 0) 24 (by rfl) Try.underlying43 info_I64Sn rfl w.heap.size O j oc (its.map hdI) (by rfl) (by exact OS2.out.own.alloc _) w2.heap.size (.slice (some T) 2 2) (by rfl) (by exact new_cell _ _ _ 0) rfl (by omega) (by omega) (by simp; omega) ?_; intro g' cap w3 own3 hb3 hk3 hg3 hz3)
          have E3 := Lib.hid (show Below wr.heap.size wr (w2.alloc (.cells #[.slice (some T) 2 2] 25)) from HB2.out.alloc hz2 _)
          have O3 := Lib.hid (hOS.out.push (s := sgI (some T) 2 [(k2 : Int), (a : Int)]) (by omega) E3.out ((WT.out.alloc _).wider (Nat.le_refl _) (by simp)) own3 hk3 hg3 hz3)
          have B3 := Lib.hid (HB.out.trans ((E3.out.mono hwz).trans hb3))
          have R3 := Lib.hid (show RdI w3 A2 rl R from Rd.sole (A2 := O) (Rd.alloc RR2.out (.cells #[.slice (some T) 2 2] 25)) hk3 (fun ad1 ad2 e1 e2 h0 => by have h1 := HLO.out ad1 e1 h0; have h2 := (hOS.out.own.block e2).2.1; omega) hz3)
          clear own3 hb3 hk3 hg3 hz3 hcO hcS
          go_roundw
          case rel => exact ⟨b', A2, rl, cA, R, j + 1, some ⟨g', 0, none⟩, cap, rows ++ [(k2, a)], its ++ [⟨some T, 2, 2, [(k2 : Int), (a : Int)]⟩], by have := HJB.out; omega, by unfold Hid; rw [List.length_append, hrl.out]; rfl, rfl, rfl, h4, hcA, R3.out, HO3.out, HV2.out, O3.out.snocII, by unfold Hid; rw [List.map_append, List.map_append, hIX.out]; rfl, (by
            intro t ht
            rcases List.mem_append.1 ht with ht | ht
            · exact hI2.out t ht
            · rw [List.mem_singleton] at ht; subst ht; rfl), B3.out⟩
          case measure => have := HJB.out; simp [lenV]; omega
      · rw [if_neg h4] at hnx
        obtain ⟨O2, oc2, S2, sc2, rfl, hb2⟩ := hnx
        have HB2 := Lib.hid hb2
        clear hb2
        by_cases hb0 : b = 0
        · have hj : j = most := by have := HJB.out; omega
          have HV2 := Lib.hid (show some (us, rows, false) = RV by rw [← HV.out, runLK, if_pos hb0])
          have g0 : ((j : Int) == (most : Int)) = true := by simp [hj]
          have HJ := Lib.hid hj
          clear hj hb0
          go_wp2_with fail
          refine bodyPost_ret (v := .tuple #[.slice A l c', .slice O j oc, .bool false, .bool true]) (by simp [results, Try.results41, go_sem]) rfl ?_
          rw [← HV2.out]
          refine ⟨A, l, c', O, oc, its, by rw [hrl.out], RdI.below hR.out HB2.out, hlc, hl4, ?_, hIX.out, hI2.out, below_chain HB.out HB.out.size HB2.out⟩
          rw [hrl.out]; exact (hOS.out.keep HB2.out).wrII
        · have g0 : ((j : Int) == (most : Int)) = false := by simp; have := HJB.out; omega
          have HV2 := Lib.hid (show none = RV by rw [← HV.out, runLK, if_neg hb0, if_neg h4])
          go_wp2_with fail
          refine bodyPost_ret (v := .tuple #[.slice none 0 0, .slice none 0 0, .bool false, .bool false]) (by simp [results, Try.results41, go_sem]) rfl ?_
          rw [← HV2.out]
          exact ⟨rfl, below_chain HB.out HB.out.size HB2.out⟩
end Go.Proofs.Ytcbcjhfeidkeaaa
