/-
  Texts of partial configurations (l26Text, partialText, PartialText).
-/
import Derived.Test.YtdendllginlidaaGreatDoorCTc
import Derived.Test.YtdendllginlidaaGreatDoorC26
import Derived.Test.YtdendllginlidaaGreatDoorMixB
namespace Go.Proofs.YtdendllginlidaaGreatDoor
open Go.RowKit

/-- a partial configuration's text -/
def pText (s : Int) (k : Nat) (xs : List Int) : List UInt8 := digT (xs.take k) ++ [91] ++ Lib.itoa s ++ [93] ++ digT (xs.drop k)
theorem pText_bs (s : Int) (k : Nat) (xs : List Int) : bs (digT (xs.take k)) ++ ⟨#[91]⟩ ++ bs (Lib.itoa s) ++ ⟨#[93]⟩ ++ bs (digT (xs.drop k)) = bs (pText s k xs) := by
  rw [show (⟨#[91]⟩ : ByteArray) = bs [91] from rfl, show (⟨#[93]⟩ : ByteArray) = bs [93] from rfl]
  simp only [bs_add, pText]
set_option maxHeartbeats 2000000 in
set_option maxRecDepth 100000 in
theorem l26Text_c (g : Nat) (s : Int) (k : Nat) (A : Option Addr) (n cp : Nat) (xs : List Int) (w : World) (h : PartP w g s k A n cp xs) (hk : k < n) (hn : n ≤ 1000) (hnc : n ≤ cp) (hs : 0 ≤ s ∧ s ≤ 1000) (hx : dgs xs) :
    Calls Tryz.prog 24 #[.pointer (some ⟨g, 0, none⟩)] w fun e w' => e = .returned (.string (bs (pText s k xs))) ∧ Below w.heap.size w w' := by
  have c0 := Ext.cell h.c0; have c1 := Ext.cell h.c1; have c2 := Ext.cell h.c2
  obtain ⟨ad, _, rfl, _, _, _⟩ := h.rd.at_ hk
  have HL := Lib.hid h.rd.len
  have H := Lib.hid h.rd; clear h
  have HX := Lib.hid hx; clear hx
  have HR := Lib.hid (pText_bs s k xs)
  have l1 : (bs (digT (xs.take k))).size ≤ 1000 := by rw [bs_size, digT_len, List.length_take]; omega
  have l2 : (bs (Lib.itoa s)).size ≤ 21 := by rw [bs_size]; exact itoa_len (by omega)
  have l3 : (bs (digT (xs.drop k))).size ≤ 1000 := by rw [bs_size, digT_len, List.length_drop]; have := HL.out; omega
  have HT := Lib.hid (show dgs (xs.take k) from fun x hx => HX.out x (List.mem_of_mem_take hx))
  have HD := Lib.hid (show dgs (xs.drop k) from fun x hx => HX.out x (List.mem_of_mem_drop hx))
  go_enter Tryz.func24, Tryz.ntmps24
  go_wp2_with fail
  refine Mix.wp_region_mix [0, 0, 0, 3, 0, 0, 0, 3, 0, 1, 0, 0, 0, 0, 3, 1, 0, 0, 0, 0, 0, 3, 0, 0, 0, 3, 0, 1, 0, 0] (fun w' => ∃ x : Ext w, w' = x.w) (by kernel_rfl) (by kernel_rfl) (InExt.drew _) ?_
  repeat (first | (refine Mix.wpMix_read (by rfl) ?_; go_big_quiet_step (fail); refine wpQuiet_nil ?_) | (refine Mix.wpMix_pure (by rfl) ?_; go_big_quiet_step (fail); refine wpQuiet_nil ?_))
  refine Mix.wpMix_chg (by rfl) (fun K hK => ?_)
  go_wp2_with fail
  refine (l06Digits_c (some ad) k cp (xs.take k) _ (by exact RdI.take (RdI.drew H.out) (by omega)) (by omega) HT.out).mono ?_
  rintro e w1 ⟨rfl, hb1⟩
  have E1 := Lib.hid (show Below w.heap.size w w1 from below_of_drew hb1)
  clear hb1
  go_wp2_with fail
  refine hK _ _ ⟨⟨_, E1.out⟩, rfl⟩ ?_
  clear hK K
  repeat (first | (refine Mix.wpMix_read (by rfl) ?_; go_big_quiet_step (fail); refine wpQuiet_nil ?_) | (refine Mix.wpMix_pure (by rfl) ?_; go_big_quiet_step (fail); refine wpQuiet_nil ?_))
  refine Mix.wpMix_chg (by rfl) (fun K hK => ?_)
  go_wp2_with fail
  refine (l01Dec_c s _ (by omega) (by omega)).mono ?_
  rintro e w2 ⟨rfl, hb2⟩
  have E2 := Lib.hid (below_chain E1.out E1.out.size hb2)
  clear hb2
  go_wp2_with fail
  refine hK _ _ ⟨⟨_, E2.out⟩, rfl⟩ ?_
  clear hK K
  repeat (first | (refine Mix.wpMix_read (by rfl) ?_; go_big_quiet_step (fail); refine wpQuiet_nil ?_) | (refine Mix.wpMix_pure (by rfl) ?_; go_big_quiet_step (fail); refine wpQuiet_nil ?_))
  refine Mix.wpMix_chg (by rfl) (fun K hK => ?_)
  go_wp2_with fail
  refine (l06Digits_c (some (ad.add k)) (n - k) (cp - k) (xs.drop k) _ (by exact RdI.drop (RdI.below H.out E2.out) (by omega)) (by omega) HD.out).mono ?_
  rintro e w3 ⟨rfl, hb3⟩
  have E3 := Lib.hid (below_chain E2.out E2.out.size hb3)
  clear hb3
  go_wp2_with fail
  refine hK _ _ ⟨⟨_, E3.out⟩, rfl⟩ ?_
  clear hK K
  repeat (first | (refine Mix.wpMix_read (by rfl) ?_; go_big_quiet_step (fail); refine wpQuiet_nil ?_) | (refine Mix.wpMix_pure (by rfl) ?_; go_big_quiet_step (fail); refine wpQuiet_nil ?_))
  (refine Mix.wpMix_nil ?_; try simp only [Exit.then])
  clear c0 c1 c2
  go_wp2_with fail
  go_ret
  exact ⟨by rw [← HR.out]; rfl, E3.out⟩
set_option maxHeartbeats 2000000 in
set_option maxRecDepth 100000 in
theorem partialText_c (s : Int) (k : Nat) (A : Option Addr) (n cp : Nat) (xs : List Int) (w : World) (h : RdI w A n xs) (hk : k < n) (hn : n ≤ 1000) (hnc : n ≤ cp) (hs : 0 ≤ s ∧ s ≤ 1000) (hx : dgs xs) (ht : Tab w) :
    Calls Tryz.prog 60 #[.agg #[.int .i64 s, .int .i64 k, .slice A n cp]] w fun e w' => e = .returned (.string (bs (pText s k xs))) ∧ Below w.heap.size w w' := by
  obtain ⟨ad, _, rfl, _, _, _⟩ := h.at_ hk
  have HL := Lib.hid h.len
  have H := Lib.hid h; clear h
  have HX := Lib.hid hx; clear hx
  have HTB := Lib.hid ht; clear ht
  have HR := Lib.hid (pText_bs s k xs)
  have l1 : (bs (digT (xs.take k))).size ≤ 1000 := by rw [bs_size, digT_len, List.length_take]; omega
  have l2 : (bs (Lib.itoa s)).size ≤ 21 := by rw [bs_size]; exact itoa_len (by omega)
  have l3 : (bs (digT (xs.drop k))).size ≤ 1000 := by rw [bs_size, digT_len, List.length_drop]; have := HL.out; omega
  have HT := Lib.hid (show dgs (xs.take k) from fun x hx => HX.out x (List.mem_of_mem_take hx))
  have HD := Lib.hid (show dgs (xs.drop k) from fun x hx => HX.out x (List.mem_of_mem_drop hx))
  go_enter Tryz.func60, Tryz.ntmps60
  go_wp2_with fail
  obtain ⟨w0, hw0⟩ : ∃ w0, w.alloc (.cells #[.int .i64 s, .int .i64 k, .slice (some ad) n cp] 28) = w0 := ⟨_, rfl⟩
  have E0 := Lib.hid (show Below w.heap.size w w0 by rw [← hw0]; exact below_size.alloc (Nat.le_refl _) _)
  have c0 := Ext.cell (show w0.cell? ⟨w.heap.size, 0, none⟩ = some (i64 s) by rw [← hw0]; simp)
  have c1 := Ext.cell (show w0.cell? ⟨w.heap.size, 1, none⟩ = some (i64 k) by rw [← hw0]; simp)
  have c2 := Ext.cell (show w0.cell? ⟨w.heap.size, 2, none⟩ = some (.slice (some ad) n cp) by rw [← hw0]; simp)
  rw [hw0]
  clear hw0
  refine Mix.wp_region_mix [0, 3, 0, 3, 0, 1, 0, 0, 3, 1, 0, 0, 0, 3, 0, 3, 0, 1, 0, 0] (fun w' => ∃ x : Ext w0, w' = x.w) (by kernel_rfl) (by kernel_rfl) (InExt.drew _) ?_
  repeat (first | (refine Mix.wpMix_read (by rfl) ?_; go_big_quiet_step (fail); refine wpQuiet_nil ?_) | (refine Mix.wpMix_pure (by rfl) ?_; go_big_quiet_step (fail); refine wpQuiet_nil ?_))
  refine Mix.wpMix_chg (by rfl) (fun K hK => ?_)
  go_wp2_with fail
  refine (digitsText_c (some ad) k cp (xs.take k) _ (by exact RdI.take (RdI.drew (RdI.below H.out E0.out)) (by omega)) (by omega) HT.out).mono ?_
  rintro e w1 ⟨rfl, hb1⟩
  have E1 := Lib.hid (show Below w0.heap.size w0 w1 from below_of_drew hb1)
  clear hb1
  go_wp2_with fail
  refine hK _ _ ⟨⟨_, E1.out⟩, rfl⟩ ?_
  clear hK K
  repeat (first | (refine Mix.wpMix_read (by rfl) ?_; go_big_quiet_step (fail); refine wpQuiet_nil ?_) | (refine Mix.wpMix_pure (by rfl) ?_; go_big_quiet_step (fail); refine wpQuiet_nil ?_))
  refine Mix.wpMix_chg (by rfl) (fun K hK => ?_)
  go_wp2_with fail
  refine (Decimal_c s _ (by omega) (by omega) (by exact (HTB.out.below E0.out).below E1.out)).mono ?_
  rintro e w2 ⟨rfl, hb2⟩
  have E2 := Lib.hid (below_chain E1.out E1.out.size hb2)
  clear hb2
  go_wp2_with fail
  refine hK _ _ ⟨⟨_, E2.out⟩, rfl⟩ ?_
  clear hK K
  repeat (first | (refine Mix.wpMix_read (by rfl) ?_; go_big_quiet_step (fail); refine wpQuiet_nil ?_) | (refine Mix.wpMix_pure (by rfl) ?_; go_big_quiet_step (fail); refine wpQuiet_nil ?_))
  refine Mix.wpMix_chg (by rfl) (fun K hK => ?_)
  go_wp2_with fail
  refine (digitsText_c (some (ad.add k)) (n - k) (cp - k) (xs.drop k) _ (by exact RdI.drop (RdI.below (RdI.below H.out E0.out) E2.out) (by omega)) (by omega) HD.out).mono ?_
  rintro e w3 ⟨rfl, hb3⟩
  have E3 := Lib.hid (below_chain E2.out E2.out.size hb3)
  clear hb3
  go_wp2_with fail
  refine hK _ _ ⟨⟨_, E3.out⟩, rfl⟩ ?_
  clear hK K
  repeat (first | (refine Mix.wpMix_read (by rfl) ?_; go_big_quiet_step (fail); refine wpQuiet_nil ?_) | (refine Mix.wpMix_pure (by rfl) ?_; go_big_quiet_step (fail); refine wpQuiet_nil ?_))
  (refine Mix.wpMix_nil ?_; try simp only [Exit.then])
  clear c0 c1 c2
  go_wp2_with fail
  go_ret
  exact ⟨by rw [← HR.out]; rfl, below_chain E0.out E0.out.size E3.out⟩
/-- what PartialText gives -/
def ptR (sy st : Int) (rs : List Rule3) (s a : Int) (xs : List Int) : List UInt8 := if vpartB sy st rs s a xs = true then pText s a.toNat xs else []
theorem partB_bd {sy st s a : Int} {xs : List Int} (h : partB sy st s a xs = true) (hsy : 2 ≤ sy ∧ sy ≤ 6) (hst : 1 ≤ st ∧ st ≤ 1000) : (0 ≤ s ∧ s ≤ 1000) ∧ (1 ≤ xs.length ∧ xs.length ≤ 60) ∧ (0 ≤ a ∧ a < xs.length) ∧ dgs xs := by
  simp only [partB, Bool.and_eq_true] at h
  have h1 := inB_t h.1.1.1; have h2 := inB_t h.1.1.2; have h3 := inB_t h.1.2
  refine ⟨by omega, by omega, by omega, fun x hx => ?_⟩
  have := allB_mem h.2 x hx
  omega
set_option maxHeartbeats 2000000 in
set_option maxRecDepth 100000 in
theorem iPartialText_c (sy st : Int) (A : Option Addr) (n cp : Nat) (rs : List Rule3) (s a : Int) (A' : Option Addr) (n' cp' : Nat) (xs : List Int) (w : World) (h : RdS w [sgX enc3 3 A n rs]) (h' : RdS w [sgI A' n' xs]) (hn : n ≤ 1000000000) (hn' : n' ≤ 1000000000) (hnc : n' ≤ cp') (ht : Tab w) :
    Calls Tryz.prog 31 #[.agg #[.int .i64 sy, .int .i64 st, .slice A n cp], .agg #[.int .i64 s, .int .i64 a, .slice A' n' cp']] w fun e w' => e = .returned (.string (bs (ptR sy st rs s a xs))) ∧ Below w.heap.size w w' := by
  have H := Lib.hid h; have H' := Lib.hid h'; clear h h'
  have HT := Lib.hid ht; clear ht
  go_enter Tryz.func31, Tryz.ntmps31
  go_wp2_with fail
  refine (iValidPartial_c sy st A n cp rs s a A' n' cp' xs _ (by exact ((H.out.alloc _).alloc _)) (by exact ((H'.out.alloc _).alloc _)) hn hn').mono ?_
  rintro e w1 ⟨rfl, hb⟩
  have p0 : w1.cell? ⟨w.heap.size + 1, 0, none⟩ = some (i64 s) := keepc hb (by simp)
  have p1 : w1.cell? ⟨w.heap.size + 1, 1, none⟩ = some (i64 a) := keepc hb (by simp)
  have p2 : w1.cell? ⟨w.heap.size + 1, 2, none⟩ = some (.slice A' n' cp') := keepc hb (by simp)
  have T := Lib.hid (up2 hb); clear hb
  cases hv : vpartB sy st rs s a xs
  · have HR := Lib.hid (show ptR sy st rs s a xs = [] by rw [ptR, hv]; rfl)
    clear hv p0 p1 p2
    go_wp2_with fail
    go_ret
    exact ⟨by rw [HR.out]; rfl, T.out⟩
  · have HR := Lib.hid (show ptR sy st rs s a xs = pText s a.toNat xs by rw [ptR, if_pos hv])
    have hm : machB sy st rs = true ∧ partB sy st s a xs = true := by simpa [vpartB] using hv
    have hbd := machB_bd hm.1
    have hpb := partB_bd hm.2 hbd.1 hbd.2.1
    have hl : xs.length = n' := by have := H'.out.head.1; simpa [sgI] using this
    have HP := Lib.hid hpb
    obtain ⟨k, rfl⟩ : ∃ k : Nat, a = k := ⟨a.toNat, by omega⟩
    have hk : k < n' := by omega
    have hn2 : n' ≤ 1000 := by omega
    clear hv hm hbd hpb
    go_wp2_with fail
    refine (partialText_c s k A' n' cp' xs _ (by exact Rd.below H'.out.head T.out) hk hn2 hnc HP.out.1 HP.out.2.2.2 (HT.out.below T.out)).mono ?_
    rintro e w2 ⟨rfl, hb2⟩
    have T2 := Lib.hid (below_chain T.out T.out.size hb2); clear hb2
    go_wp2_with fail
    go_ret
    exact ⟨by rw [HR.out]; rfl, T2.out⟩
end Go.Proofs.YtdendllginlidaaGreatDoor
