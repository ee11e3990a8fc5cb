/-
  Texts of formula tapes (FormulaText).
-/
import Derived.Test.YtfbmjlohdhogmaaDoorCTc
import Derived.Test.YtfbmjlohdhogmaaDoorC27f
namespace Go.Proofs.YtfbmjlohdhogmaaDoor
open Go.RowKit

/-- the parts of a formula's text -/
def foHead (s hd a : Int) : List UInt8 := Lib.itoa s ++ [64] ++ Lib.itoa hd ++ [46] ++ Lib.itoa a ++ [58]
def foRp (rs : List (List Int)) (os : List Int) (i : Nat) : List UInt8 := [40] ++ digT (rs.getD i []) ++ [41] ++ Lib.itoa (os.getD i 0) ++ [59]
def foPre (H : List UInt8) (ws rs : List (List Int)) (os : List Int) (k : Nat) : List UInt8 := H ++ digT (ws.getD 0 []) ++ (List.range k).flatMap fun i => foRp rs os i ++ digT (ws.getD (i + 1) [])
def foOut (H : List UInt8) (ws rs : List (List Int)) (os : List Int) (k : Nat) : List UInt8 := H ++ (List.range k).flatMap fun i => digT (ws.getD i []) ++ foRp rs os i
theorem foPre_succ (H : List UInt8) (ws rs : List (List Int)) (os : List Int) (k : Nat) : foPre H ws rs os (k + 1) = foPre H ws rs os k ++ foRp rs os k ++ digT (ws.getD (k + 1) []) := by
  simp [foPre, List.range_succ, List.flatMap_append]
theorem foOut_succ (H : List UInt8) (ws rs : List (List Int)) (os : List Int) (k : Nat) : foOut H ws rs os (k + 1) = foOut H ws rs os k ++ digT (ws.getD k []) ++ foRp rs os k := by
  simp [foOut, List.range_succ, List.flatMap_append]
theorem foOut_pre (H : List UInt8) (ws rs : List (List Int)) (os : List Int) : ∀ k, foOut H ws rs os k ++ digT (ws.getD k []) = foPre H ws rs os k
  | 0 => by simp [foOut, foPre]
  | k + 1 => by rw [foPre_succ, foOut_succ, ← foOut_pre H ws rs os k]; try simp only [List.append_assoc]
structure FoOk (s hd a : Int) (ws rs : List (List Int)) (os : List Int) : Prop where
  s : 0 ≤ s ∧ s ≤ 1000
  hd : 0 ≤ hd ∧ hd ≤ 3
  a : -1 ≤ a ∧ a ≤ 100
  nr : 1 ≤ rs.length ∧ rs.length ≤ 3
  nw : ws.length = rs.length + 1
  no : os.length = rs.length
  ws : ∀ xs ∈ ws, xs.length ≤ 100 ∧ dgs xs
  rs : ∀ xs ∈ rs, xs.length ≤ 20 ∧ dgs xs
  os : ∀ x ∈ os, -1000 ≤ x ∧ x ≤ 1000
theorem symB_dg {sy : Int} {xs : List Int} (hsy : 2 ≤ sy ∧ sy ≤ 6) (h : symB sy 100 xs = true) : xs.length ≤ 100 ∧ dgs xs := by
  simp only [symB, Bool.and_eq_true, decide_eq_true_eq] at h
  exact ⟨by omega, fun x hx => by have := allB_mem h.1 x hx; omega⟩
theorem repB_dg {sy : Int} {xs : List Int} (hsy : 2 ≤ sy ∧ sy ≤ 6) (h : repB sy xs = true) : xs.length ≤ 20 ∧ dgs xs := by
  simp only [repB, Bool.and_eq_true] at h
  have := inB_t h.1
  exact ⟨by omega, fun x hx => by have := allB_mem h.2 x hx; omega⟩
theorem FoOk.of {sy st s hd a : Int} {ws rs : List (List Int)} {os : List Int} (hsy : 2 ≤ sy ∧ sy ≤ 6) (hst : 1 ≤ st ∧ st ≤ 1000) (h : formB sy st s hd a ws rs os = true) : FoOk s hd a ws rs os := by
  simp only [formB, formN, Bool.and_eq_true, decide_eq_true_eq, List.all_eq_true] at h
  obtain ⟨⟨⟨⟨⟨h1, h2⟩, h3⟩, h4⟩, h5⟩, h6, ⟨h7, h8⟩, h9⟩ := h
  have h1 := inB_t h1; have h2 := inB_t h2; have h5 := inB_t h5
  have hw : (ws.getD hd.toNat []).length ≤ 100 := by
    rw [List.getD_eq_getElem?_getD, List.getElem?_eq_getElem (by omega)]
    exact (symB_dg hsy (h6 _ (List.getElem_mem _))).1
  have h9 : -1 ≤ a ∧ a ≤ 100 := by
    unfold atB at h9
    have := inB_t h9
    constructor
    · split at this <;> omega
    · split at this <;> split at this <;> omega
  exact ⟨by omega, by omega, h9, by omega, by omega, by omega, fun xs hx => symB_dg hsy (h6 xs hx), fun xs hx => repB_dg hsy (h7 xs hx), fun x hx => allB_mem h8 x hx⟩
theorem foRp_len {s hd a : Int} {ws rs : List (List Int)} {os : List Int} (h : FoOk s hd a ws rs os) {i : Nat} (hi : i < rs.length) : (foRp rs os i).length ≤ 44 := by
  have h1 : (rs.getD i []).length ≤ 20 := by rw [List.getD_eq_getElem?_getD, List.getElem?_eq_getElem hi]; exact (h.rs _ (List.getElem_mem _)).1
  have h2 : (Lib.itoa (os.getD i 0)).length ≤ 21 := by
    rw [List.getD_eq_getElem?_getD, List.getElem?_eq_getElem (by rw [h.no]; exact hi)]
    have := h.os _ (List.getElem_mem (show i < os.length by rw [h.no]; exact hi))
    exact itoa_len (by simp only [Option.getD_some]; omega)
  simp only [foRp, List.length_append, digT_len, List.length_cons, List.length_nil]
  omega
theorem foW_len {s hd a : Int} {ws rs : List (List Int)} {os : List Int} (h : FoOk s hd a ws rs os) (i : Nat) : (digT (ws.getD i [])).length ≤ 100 := by
  rw [digT_len, List.getD_eq_getElem?_getD]
  by_cases hi : i < ws.length
  · rw [List.getElem?_eq_getElem hi]; exact (h.ws _ (List.getElem_mem _)).1
  · rw [List.getElem?_eq_none (by omega)]; simp
theorem foHead_len {s hd a : Int} {ws rs : List (List Int)} {os : List Int} (h : FoOk s hd a ws rs os) : (foHead s hd a).length ≤ 70 := by
  have h1 := itoa_len (x := s) (by have := h.s; omega)
  have h2 := itoa_len (x := hd) (by have := h.hd; omega)
  have h3 := itoa_len (x := a) (by have := h.a; omega)
  simp only [foHead, List.length_append, List.length_cons, List.length_nil]
  omega
theorem foPre_len {s hd a : Int} {ws rs : List (List Int)} {os : List Int} (h : FoOk s hd a ws rs os) : ∀ k, k ≤ rs.length → (foPre (foHead s hd a) ws rs os k).length ≤ 170 + 144 * k
  | 0, _ => by
    have h1 := foHead_len h; have h2 := foW_len h 0
    simp only [foPre, List.range_zero, List.flatMap_nil, List.append_nil, List.length_append]; omega
  | k + 1, hk => by
    have h1 := foPre_len h k (by omega); have h2 := foRp_len h (i := k) (by omega); have h3 := foW_len h (k + 1)
    rw [foPre_succ, List.length_append, List.length_append]; omega
theorem foOut_len {s hd a : Int} {ws rs : List (List Int)} {os : List Int} (h : FoOk s hd a ws rs os) {k : Nat} (hk : k ≤ rs.length) : (foOut (foHead s hd a) ws rs os k).length ≤ 700 := by
  have h1 := foPre_len h k hk
  rw [← foOut_pre, List.length_append] at h1
  have := h.nr
  omega
theorem getD_map {its : List It} {i : Nat} {t : It} (h : its[i]? = some t) : (its.map It.xs).getD i [] = t.xs := by rw [List.getD_eq_getElem?_getD, List.getElem?_map, h]; rfl
/-- what FormulaText gives -/
def foR (sy st : Int) (rs : List Rule3) (s hd a : Int) (ws rps : List (List Int)) (os : List Int) : List UInt8 := if vformB sy st rs s hd a ws rps os = true then foPre (foHead s hd a) ws rps os rps.length else []
theorem foHead_bs (s hd a : Int) : bs (Lib.itoa s) ++ ⟨#[64]⟩ ++ bs (Lib.itoa hd) ++ ⟨#[46]⟩ ++ bs (Lib.itoa a) ++ ⟨#[58]⟩ = bs (foHead s hd a) := by
  rw [show (⟨#[64]⟩ : ByteArray) = bs [64] from rfl, show (⟨#[46]⟩ : ByteArray) = bs [46] from rfl, show (⟨#[58]⟩ : ByteArray) = bs [58] from rfl]
  simp only [bs_add, foHead]
theorem foRp_bs {rs : List (List Int)} {os : List Int} {i : Nat} {xs : List Int} {o : Int} (h1 : rs.getD i [] = xs) (h2 : os.getD i 0 = o) : ⟨#[40]⟩ ++ bs (digT xs) ++ ⟨#[41]⟩ ++ bs (Lib.itoa o) ++ ⟨#[59]⟩ = bs (foRp rs os i) := by
  rw [show (⟨#[40]⟩ : ByteArray) = bs [40] from rfl, show (⟨#[41]⟩ : ByteArray) = bs [41] from rfl, show (⟨#[59]⟩ : ByteArray) = bs [59] from rfl]
  simp only [bs_add, foRp, h1, h2]
set_option maxHeartbeats 4000000 in
set_option maxRecDepth 100000 in
theorem sFormulaText_c (sy st : Int) (A : Option Addr) (n cp : Nat) (rs : List Rule3) (s hd a : Int) (A0 : Option Addr) (n0 c0 : Nat) (its0 : List It) (A1 : Option Addr) (n1 c1 : Nat) (its1 : List It) (A2 : Option Addr) (n2 c2 : Nat) (os : List Int) (w : World)
    (h : RdS w [sgX enc3 3 A n rs]) (h' : RdS w (sgForm A0 n0 its0 A1 n1 its1 A2 n2 os)) (hn : n ≤ 1000000000) (hn' : n0 ≤ 1000000000) (hna : n1 ≤ 1000000000) (hnb : n2 ≤ 1000000000) (hi0 : ∀ t ∈ its0, t.n ≤ 1000000000) (hi1 : ∀ t ∈ its1, t.n ≤ 1000000000) :
    Calls Tryd.prog 27 #[.agg #[.int .i64 sy, .int .i64 st, .slice A n cp], .agg #[.int .i64 s, .int .i64 hd, .int .i64 a, .slice A0 n0 c0, .slice A1 n1 c1, .slice A2 n2 c2]] w fun e w' => e = .returned (.string (bs (foR sy st rs s hd a (its0.map It.xs) (its1.map It.xs) os))) ∧ Below w.heap.size w w' := by
  have H := Lib.hid (show Rd3 w A n rs from h.head); have H' := Lib.hid h'; clear h h'
  obtain ⟨w0, hw0⟩ : ∃ w0, (w.alloc (.cells #[i64 sy, i64 st, .slice A n cp] 41)).alloc (.cells #[i64 s, i64 hd, i64 a, .slice A0 n0 c0, .slice A1 n1 c1, .slice A2 n2 c2] 61) = w0 := ⟨_, rfl⟩
  have B0 := Lib.hid (show Below w.heap.size w w0 by rw [← hw0]; exact (below_size.alloc (Nat.le_refl _) _).alloc (by simp) _)
  have F0 := Lib.hid (show FormP w0 (w.heap.size + 1) s hd a A0 n0 c0 its0 A1 n1 c1 its1 A2 n2 c2 os by
    have e := fun i => new_cell (w.alloc (.cells #[i64 sy, i64 st, .slice A n cp] 41)) #[i64 s, i64 hd, i64 a, .slice A0 n0 c0, .slice A1 n1 c1, .slice A2 n2 c2] 61 i
    simp only [World.size_alloc, hw0] at e
    have hh := H'.out.below B0.out
    exact ⟨e 0, e 1, e 2, e 3, e 4, e 5, hh.left.left, hh.left.right, hh.right.head⟩)
  have M0 := Lib.hid (show MachP w0 w.heap.size sy st A n cp rs by rw [← hw0]; exact ⟨keepa _ (new_cell _ _ _ 0), keepa _ (new_cell _ _ _ 1), keepa _ (new_cell _ _ _ 2), (Rd.alloc H.out _).alloc _⟩)
  obtain ⟨q, hq⟩ : ∃ q, machB sy st rs = q := ⟨_, rfl⟩
  obtain ⟨r, hr⟩ : ∃ r, formB sy st s hd a (its0.map It.xs) (its1.map It.xs) os = r := ⟨_, rfl⟩
  have HF := Lib.hid (show vformB sy st rs s hd a (its0.map It.xs) (its1.map It.xs) os = (q && r) by rw [vformB, hq, hr])
  have HQ := Lib.hid hq; have HI0 := Lib.hid hi0; have HI1 := Lib.hid hi1; have HR := Lib.hid hr
  clear hr hi0 hi1
  have m0 := M0.out.c0; have m1 := M0.out.c1; have m2 := M0.out.c2
  go_enter Tryd.func27, Tryd.ntmps27
  go_wp2_with fail
  refine (l05Is_c w.heap.size sy st A n cp rs q _ (by exact M0.out) hn hq).mono ?_
  rintro e w1 ⟨rfl, hb⟩
  have T := Lib.hid (below_chain B0.out B0.out.size hb)
  have M1 := Lib.hid (M0.out.below hb); have F1 := Lib.hid (F0.out.below hb)
  clear hb hq m0 m1 m2 hw0
  have m0 := M1.out.c0; have m1 := M1.out.c1; have m2 := M1.out.c2
  cases q
  · have HZ := Lib.hid (show foR sy st rs s hd a (its0.map It.xs) (its1.map It.xs) os = [] by rw [foR, HF.out]; rfl)
    go_wp2_with fail
    go_ret
    exact ⟨by rw [HZ.out]; rfl, T.out⟩
  have hbd := machB_bd HQ.out
  go_wp2_with fail
  refine (l27Is_c _ sy st A n cp rs _ s hd a A0 n0 c0 its0 A1 n1 c1 its1 A2 n2 c2 os r _ (by exact M1.out) (by exact F1.out) hbd.1 hbd.2.1 hn' hna hnb HI0.out HI1.out HR.out).mono ?_
  rintro e w2 ⟨rfl, hq⟩
  have T2 := Lib.hid (below_chain T.out T.out.size (hq.below _))
  have F2 := Lib.hid (F1.out.below (hq.below _)); clear hq
  clear m0 m1 m2
  cases r
  · have HZ := Lib.hid (show foR sy st rs s hd a (its0.map It.xs) (its1.map It.xs) os = [] by rw [foR, HF.out]; rfl)
    clear hbd
    go_wp2_with fail
    go_ret
    exact ⟨by rw [HZ.out]; rfl, T2.out⟩
  have HZ := Lib.hid (show foR sy st rs s hd a (its0.map It.xs) (its1.map It.xs) os = foPre (foHead s hd a) (its0.map It.xs) (its1.map It.xs) os (its1.map It.xs).length by rw [foR, HF.out]; rfl)
  have OK := Lib.hid (FoOk.of hbd.1 hbd.2.1 HR.out)
  have o1 := OK.out.s; have o2 := OK.out.hd; have o3 := OK.out.a
  have hl0 := RdII.len F2.out.r0; have hl1 := RdII.len F2.out.r1; have hl2 := F2.out.r2.len
  have hnr := OK.out.nr; have hnw := OK.out.nw; have hno := OK.out.no
  simp only [List.length_map] at hnr hnw hno
  have hn01 : n0 = n1 + 1 := by omega
  have hn21 : n1 = n2 := by omega
  subst hn01 hn21
  have HL1 := Lib.hid hl1
  clear hbd hl0 hl1 hl2 hnw hno
  go_wp2_with fail
  have e0 := Ext.cell F2.out.d0; have e1 := Ext.cell F2.out.d1; have e2 := Ext.cell F2.out.d2
  have z1 : (bs (Lib.itoa s)).size ≤ 21 := by rw [bs_size]; exact itoa_len (by omega)
  have z2 : (bs (Lib.itoa hd)).size ≤ 21 := by rw [bs_size]; exact itoa_len (by omega)
  have z3 : (bs (Lib.itoa a)).size ≤ 21 := by rw [bs_size]; exact itoa_len (by omega)
  refine Mix.wp_region_mix [0, 3, 1, 0, 0, 3, 1, 0, 0, 0, 3, 1, 0, 0, 0] (fun w' => ∃ x : Ext w2, w' = x.w) (by kernel_rfl) (by kernel_rfl) (InExt.drew _) ?_
  repeat (first | (refine Mix.wpMix_read (by rfl) ?_; go_big_quiet_step (fail); refine wpQuiet_nil ?_) | (refine Mix.wpMix_pure (by rfl) ?_; go_big_quiet_step (fail); refine wpQuiet_nil ?_))
  refine Mix.wpMix_chg (by rfl) (fun K hK => ?_)
  go_wp2_with fail
  refine (l01Dec_c s _ (by omega) (by omega)).mono ?_
  rintro e w3 ⟨rfl, hb3⟩
  have E3 := Lib.hid (show Below w2.heap.size w2 w3 from below_of_drew hb3)
  clear hb3
  go_wp2_with fail
  refine hK _ _ ⟨⟨_, E3.out⟩, rfl⟩ ?_
  clear hK K
  repeat (first | (refine Mix.wpMix_read (by rfl) ?_; go_big_quiet_step (fail); refine wpQuiet_nil ?_) | (refine Mix.wpMix_pure (by rfl) ?_; go_big_quiet_step (fail); refine wpQuiet_nil ?_))
  refine Mix.wpMix_chg (by rfl) (fun K hK => ?_)
  go_wp2_with fail
  refine (l01Dec_c hd _ (by omega) (by omega)).mono ?_
  rintro e w4 ⟨rfl, hb4⟩
  have E4 := Lib.hid (below_chain E3.out E3.out.size hb4)
  clear hb4
  go_wp2_with fail
  refine hK _ _ ⟨⟨_, E4.out⟩, rfl⟩ ?_
  clear hK K
  repeat (first | (refine Mix.wpMix_read (by rfl) ?_; go_big_quiet_step (fail); refine wpQuiet_nil ?_) | (refine Mix.wpMix_pure (by rfl) ?_; go_big_quiet_step (fail); refine wpQuiet_nil ?_))
  refine Mix.wpMix_chg (by rfl) (fun K hK => ?_)
  go_wp2_with fail
  refine (l01Dec_c a _ (by omega) (by omega)).mono ?_
  rintro e w5 ⟨rfl, hb5⟩
  have E5 := Lib.hid (below_chain E4.out E4.out.size hb5)
  clear hb5
  go_wp2_with fail
  refine hK _ _ ⟨⟨_, E5.out⟩, rfl⟩ ?_
  clear hK K
  repeat (first | (refine Mix.wpMix_read (by rfl) ?_; go_big_quiet_step (fail); refine wpQuiet_nil ?_) | (refine Mix.wpMix_pure (by rfl) ?_; go_big_quiet_step (fail); refine wpQuiet_nil ?_))
  (refine Mix.wpMix_nil ?_; try simp only [Exit.then])
  rw [foHead_bs]
  clear e0 e1 e2 z1 z2 z3 o1 o2 o3
  go_wp2_with fail
  go_loopw [5, 6] (fun ov iv wr => ∃ k : Nat, iv = .int .i64 k ∧ ov = .string (bs (if k ≤ n1 then foOut (foHead s hd a) (its0.map It.xs) (its1.map It.xs) os k else foPre (foHead s hd a) (its0.map It.xs) (its1.map It.xs) os n1)) ∧ k ≤ n1 + 1 ∧ Below w2.heap.size w2 wr) (fun _ iv _ => n1 + 1 - (intOf iv).toNat)
  case atStart => exact ⟨0, rfl, by rw [if_pos (by omega)]; simp [foOut], by omega, E5.out⟩
  case round =>
    obtain ⟨k, rfl, rfl, hk, hb⟩ := hrel
    have HB := Lib.hid hb
    have F3 := Lib.hid (F2.out.below hb)
    have k3 := F3.out.d3; have k4 := F3.out.d4; have k5 := F3.out.d5
    by_cases hlt : k ≤ n1
    · obtain ⟨ad, t, rfl, hab, ht, hct, hrt⟩ := RdII.at_ F3.out.r0 (show k < n1 + 1 by omega)
      have HTW := Lib.hid (OK.out.ws t.xs (List.mem_map_of_mem (List.mem_of_getElem? ht)))
      have HRT := Lib.hid (show RdI wr t.A t.n t.xs from hrt.head)
      have htn : t.n ≤ 100 := by have h1 := RdI.len HRT.out; have h2 := HTW.out.1; omega
      have HP := Lib.hid (show bs (foOut (foHead s hd a) (its0.map It.xs) (its1.map It.xs) os k) ++ bs (digT t.xs) = bs (foPre (foHead s hd a) (its0.map It.xs) (its1.map It.xs) os k) by rw [← foOut_pre, getD_map ht, bs_add])
      have s1 : (bs (foOut (foHead s hd a) (its0.map It.xs) (its1.map It.xs) os k)).size ≤ 700 := by rw [bs_size]; exact foOut_len OK.out (by rw [List.length_map, HL1.out]; exact hlt)
      have s2 : (bs (digT t.xs)).size ≤ 100 := by rw [bs_size, digT_len]; exact HTW.out.1
      have s3 : (bs (foPre (foHead s hd a) (its0.map It.xs) (its1.map It.xs) os k)).size ≤ 800 := by rw [← HP.out, ByteArray.size_append]; omega
      rw [if_pos hlt]
      obtain ⟨OT, hOT⟩ : ∃ OT, foOut (foHead s hd a) (its0.map It.xs) (its1.map It.xs) os k = OT := ⟨_, rfl⟩
      rw [hOT] at HP s1 ⊢
      clear ht hrt hb hOT
      by_cases h2 : k < n1
      · have g2 : decide (k < n1) = true := by simpa using h2
        have HH2 := Lib.hid h2
        go_wp2_with (go_at_call 63; refine (l05Digits_c t.A t.n t.c t.xs _ (by exact HRT.out) (by omega) HTW.out.2).mono ?_; rintro e w6 ⟨rfl, hb6⟩; have B6 := Lib.hid (HB.out.trans (hb6.mono HB.out.size)); have F6 := Lib.hid (F2.out.below B6.out); have k4' := F6.out.d4; clear hb6)
        clear k3 k4 k5 k4' hct
        obtain ⟨ad1, u, rfl, hab1, hu, hcu, hru⟩ := RdII.at_ F6.out.r1 HH2.out
        obtain ⟨ad2, o, rfl, hab2, ho, hco⟩ := F6.out.r2.at_ HH2.out
        have HUW := Lib.hid (OK.out.rs u.xs (List.mem_map_of_mem (List.mem_of_getElem? hu)))
        have hob := OK.out.os o (List.mem_of_getElem? ho)
        have HRU := Lib.hid (show RdI w6 u.A u.n u.xs from hru.head)
        have hun : u.n ≤ 20 := by have h1 := RdI.len HRU.out; have h2 := HUW.out.1; omega
        have HRP := Lib.hid (foRp_bs (rs := its1.map It.xs) (os := os) (i := k) (xs := u.xs) (o := o) (getD_map hu) (by simp [List.getD_eq_getElem?_getD, ho]))
        have y1 : (bs (digT u.xs)).size ≤ 20 := by rw [bs_size, digT_len]; exact HUW.out.1
        have y2 : (bs (Lib.itoa o)).size ≤ 21 := by rw [bs_size]; exact itoa_len (by omega)
        have e4 := Ext.cell F6.out.d4; have e5 := Ext.cell F6.out.d5; have eu := Ext.cell hcu; have eo := Ext.cell hco
        clear hu ho hru hcu hco
        rw [HP.out]
        refine Mix.wp_region_mix [0, 0, 3, 0, 0, 3, 1, 0, 0, 0, 3, 0, 0, 3, 1, 0, 0, 0, 0] (fun w' => ∃ x : Ext w6, w' = x.w) (by kernel_rfl) (by kernel_rfl) (InExt.drew _) ?_
        repeat (first | (refine Mix.wpMix_read (by rfl) ?_; go_big_quiet_step (fail); refine wpQuiet_nil ?_) | (refine Mix.wpMix_pure (by rfl) ?_; go_big_quiet_step (fail); refine wpQuiet_nil ?_))
        refine Mix.wpMix_chg (by rfl) (fun K hK => ?_)
        go_wp2_with fail
        refine (l05Digits_c u.A u.n u.c u.xs _ (by exact RdI.drew HRU.out) (by omega) HUW.out.2).mono ?_
        rintro e w7 ⟨rfl, hb7⟩
        have E7 := Lib.hid (show Below w6.heap.size w6 w7 from below_of_drew hb7)
        clear hb7
        go_wp2_with fail
        refine hK _ _ ⟨⟨_, E7.out⟩, rfl⟩ ?_
        clear hK K
        repeat (first | (refine Mix.wpMix_read (by rfl) ?_; go_big_quiet_step (fail); refine wpQuiet_nil ?_) | (refine Mix.wpMix_pure (by rfl) ?_; go_big_quiet_step (fail); refine wpQuiet_nil ?_))
        refine Mix.wpMix_chg (by rfl) (fun K hK => ?_)
        go_wp2_with fail
        refine (l01Dec_c o _ (by omega) (by omega)).mono ?_
        rintro e w8 ⟨rfl, hb8⟩
        have E8 := Lib.hid (below_chain E7.out E7.out.size hb8)
        clear hb8
        go_wp2_with fail
        refine hK _ _ ⟨⟨_, E8.out⟩, rfl⟩ ?_
        clear hK K
        repeat (first | (refine Mix.wpMix_read (by rfl) ?_; go_big_quiet_step (fail); refine wpQuiet_nil ?_) | (refine Mix.wpMix_pure (by rfl) ?_; go_big_quiet_step (fail); refine wpQuiet_nil ?_))
        (refine Mix.wpMix_nil ?_; try simp only [Exit.then])
        rw [HRP.out]
        have HS := Lib.hid (show bs (foPre (foHead s hd a) (its0.map It.xs) (its1.map It.xs) os k) ++ bs (foRp (its1.map It.xs) os k) = bs (foOut (foHead s hd a) (its0.map It.xs) (its1.map It.xs) os (k + 1)) by rw [foOut_succ, foOut_pre, bs_add])
        rw [HS.out]
        clear e4 e5 eu eo
        go_wp2_with fail
        go_roundw
        case rel => exact ⟨k + 1, by go_num, by rw [if_pos (by omega)], by omega, below_chain B6.out B6.out.size E8.out⟩
        case measure => simp [intOf]; omega
      · obtain rfl : k = n1 := by omega
        have g2 : decide (k < k) = false := by simp
        go_wp2_with (go_at_call 63; refine (l05Digits_c t.A t.n t.c t.xs _ (by exact HRT.out) (by omega) HTW.out.2).mono ?_; rintro e w6 ⟨rfl, hb6⟩; have B6 := Lib.hid (HB.out.trans (hb6.mono HB.out.size)); have F6 := Lib.hid (F2.out.below B6.out); have k4' := F6.out.d4; clear hb6)
        rw [HP.out]
        go_roundw
        case rel => exact ⟨k + 1, by go_num, by rw [if_neg (by omega)], by omega, B6.out⟩
        case measure => simp [intOf]
    · obtain rfl : k = n1 + 1 := by omega
      rw [if_neg hlt]
      have HLL := Lib.hid (show (its1.map It.xs).length = n1 by rw [List.length_map]; exact HL1.out)
      clear hb
      go_wp2_with fail
      go_ret
      exact ⟨by rw [HZ.out, HLL.out]; rfl, T2.out.trans (HB.out.mono T2.out.size)⟩
theorem addrS0 (ad : Addr) (k : Nat) : ad.add (k + 1) = ⟨ad.block, ad.off + (k + 1), none⟩ := by unfold Addr.add; simp
theorem addrZ0 (ad : Addr) : ad.add 0 = ad := by unfold Addr.add; simp
/-- a builder stays where all is kept -/
theorem bld_below {T e : TypeId} {B b : Nat} {bs : List Value} {W W' : World} (h : Lib.IsBuilderF T e B b bs W) (hb : Below W.heap.size W W') : Lib.IsBuilderF T e B b bs W' := by
  have one : ∀ p, Lib.BuilderAtF T e B b p bs W → Lib.BuilderAtF T e B b p bs W' := fun p h => by
    have hlt := h.lt
    obtain ⟨hB, v, hv, hown, hne⟩ := h
    exact ⟨hB, v, (hb.block b hlt).trans hv, hown.kept (row := none) ⟨hb.os, hb.tape, hb.output, hb.size, fun k hk _ => hb.block k hk⟩ (Classical.em _), hne⟩
  exact h.elim (fun x => .inl (one _ x)) (fun x => .inr (one _ x))
set_option maxHeartbeats 4000000 in
set_option maxRecDepth 100000 in
theorem iFormulaText_c (sy st : Int) (A : Option Addr) (n cp : Nat) (rs : List Rule3) (s hd a : Int) (A0 : Option Addr) (n0 c0 : Nat) (its0 : List It) (A1 : Option Addr) (n1 c1 : Nat) (its1 : List It) (A2 : Option Addr) (n2 c2 : Nat) (os : List Int) (w : World)
    (h : RdS w [sgX enc3 3 A n rs]) (h' : RdS w (sgForm A0 n0 its0 A1 n1 its1 A2 n2 os)) (hn : n ≤ 1000000000) (hn' : n0 ≤ 1000000000) (hna : n1 ≤ 1000000000) (hnb : n2 ≤ 1000000000) (hi0 : ∀ t ∈ its0, t.n ≤ 1000000000) (hi1 : ∀ t ∈ its1, t.n ≤ 1000000000) (ht : Tab w) :
    Calls Tryd.prog 29 #[.agg #[.int .i64 sy, .int .i64 st, .slice A n cp], .agg #[.int .i64 s, .int .i64 hd, .int .i64 a, .slice A0 n0 c0, .slice A1 n1 c1, .slice A2 n2 c2]] w fun e w' => e = .returned (.string (bs (foR sy st rs s hd a (its0.map It.xs) (its1.map It.xs) os))) ∧ Below w.heap.size w w' := by
  have HT := Lib.hid ht; clear ht
  have H := Lib.hid (show Rd3 w A n rs from h.head); have H' := Lib.hid h'; clear h h'
  obtain ⟨w0, hw0⟩ : ∃ w0, (w.alloc (.cells #[i64 sy, i64 st, .slice A n cp] 41)).alloc (.cells #[i64 s, i64 hd, i64 a, .slice A0 n0 c0, .slice A1 n1 c1, .slice A2 n2 c2] 61) = w0 := ⟨_, rfl⟩
  have B0 := Lib.hid (show Below w.heap.size w w0 by rw [← hw0]; exact (below_size.alloc (Nat.le_refl _) _).alloc (by simp) _)
  have F0 := Lib.hid (show FormP w0 (w.heap.size + 1) s hd a A0 n0 c0 its0 A1 n1 c1 its1 A2 n2 c2 os by
    have e := fun i => new_cell (w.alloc (.cells #[i64 sy, i64 st, .slice A n cp] 41)) #[i64 s, i64 hd, i64 a, .slice A0 n0 c0, .slice A1 n1 c1, .slice A2 n2 c2] 61 i
    simp only [World.size_alloc, hw0] at e
    have hh := H'.out.below B0.out
    exact ⟨e 0, e 1, e 2, e 3, e 4, e 5, hh.left.left, hh.left.right, hh.right.head⟩)
  have M0 := Lib.hid (show MachP w0 w.heap.size sy st A n cp rs by rw [← hw0]; exact ⟨keepa _ (new_cell _ _ _ 0), keepa _ (new_cell _ _ _ 1), keepa _ (new_cell _ _ _ 2), (Rd.alloc H.out _).alloc _⟩)
  have m0 := M0.out.c0; have m1 := M0.out.c1; have m2 := M0.out.c2
  have k0 := F0.out.d0; have k1 := F0.out.d1; have k2 := F0.out.d2; have k3 := F0.out.d3; have k4 := F0.out.d4; have k5 := F0.out.d5
  go_enter Tryd.func29, Tryd.ntmps29
  go_wp2_with fail
  refine (iValidFormula_c sy st A n cp rs s hd a A0 n0 c0 its0 A1 n1 c1 its1 A2 n2 c2 os _ (by exact RdS.one (Rd.below H.out B0.out)) (by exact H'.out.below B0.out) hn hn' hna hnb hi0 hi1).mono ?_
  rintro e w1 ⟨rfl, hb⟩
  have T := Lib.hid (below_chain B0.out B0.out.size hb)
  have F1 := Lib.hid (F0.out.below hb)
  clear hb hw0 m0 m1 m2 k0 k1 k2 k3 k4 k5
  cases hv : vformB sy st rs s hd a (its0.map It.xs) (its1.map It.xs) os
  · have HZ := Lib.hid (show foR sy st rs s hd a (its0.map It.xs) (its1.map It.xs) os = [] by rw [foR, hv]; rfl)
    clear hv
    go_wp2_with fail
    go_ret
    exact ⟨by rw [HZ.out]; rfl, T.out⟩
  have HZ := Lib.hid (show foR sy st rs s hd a (its0.map It.xs) (its1.map It.xs) os = foPre (foHead s hd a) (its0.map It.xs) (its1.map It.xs) os (its1.map It.xs).length by rw [foR, hv]; rfl)
  have hmf : machB sy st rs = true ∧ formB sy st s hd a (its0.map It.xs) (its1.map It.xs) os = true := by simpa [vformB] using hv
  have hbd := machB_bd hmf.1
  have OK := Lib.hid (FoOk.of hbd.1 hbd.2.1 hmf.2)
  have o1 := OK.out.s; have o2 := OK.out.hd; have o3 := OK.out.a
  have hl0 := RdII.len F1.out.r0; have hl1 := RdII.len F1.out.r1; have hl2 := F1.out.r2.len
  have hnr := OK.out.nr; have hnw := OK.out.nw; have hno := OK.out.no
  simp only [List.length_map] at hnr hnw hno
  have hn01 : n0 = n1 + 1 := by omega
  have hn21 : n1 = n2 := by omega
  subst hn01 hn21
  have HL1 := Lib.hid hl1
  clear hbd hl0 hl1 hl2 hnw hno hmf hv
  go_wp2_with fail
  obtain ⟨wb, hwb⟩ : ∃ wb, w1.alloc (.cells #[.pointer none, .slice none 0 0] 110) = wb := ⟨_, rfl⟩
  have EB := Lib.hid (show Below w1.heap.size w1 wb by rw [← hwb]; exact below_size.alloc (Nat.le_refl _) _)
  have BF := Lib.hid (show Lib.IsBuilderF 110 5 w1.heap.size w1.heap.size [] wb by rw [← hwb]; exact Lib.IsBuilderF.of (Lib.fresh_isBuilder _ _ w1))
  have F2 := Lib.hid (F1.out.below EB.out)
  have HT1 := Lib.hid ((HT.out.below T.out).below EB.out)
  rw [hwb]
  clear hwb
  obtain ⟨ad0, t0, rfl, hab0, ht0, hct0, hrt0⟩ := RdII.at_ F2.out.r0 (show 0 < n1 + 1 by omega)
  have HTW0 := Lib.hid (OK.out.ws t0.xs (List.mem_map_of_mem (List.mem_of_getElem? ht0)))
  have HRT0 := Lib.hid (show RdI wb t0.A t0.n t0.xs from hrt0.head)
  have htn0 : t0.n ≤ 100 := by have h1 := RdI.len HRT0.out; have h2 := HTW0.out.1; omega
  have hq0 : wb.cell? ad0 = some (.slice t0.A t0.n t0.c) := by rw [addrZ0] at hct0; exact hct0
  have HH0 := Lib.hid (show bs (foHead s hd a) ++ bs (digT t0.xs) = bs (foPre (foHead s hd a) (its0.map It.xs) (its1.map It.xs) os 0) by rw [foPre, getD_map ht0, bs_add]; simp)
  have z1 : (bs (Lib.itoa s)).size ≤ 21 := by rw [bs_size]; exact itoa_len (by omega)
  have z2 : (bs (Lib.itoa hd)).size ≤ 21 := by rw [bs_size]; exact itoa_len (by omega)
  have z3 : (bs (Lib.itoa a)).size ≤ 21 := by rw [bs_size]; exact itoa_len (by omega)
  have z4 : (bs (digT t0.xs)).size ≤ 100 := by rw [bs_size, digT_len]; exact HTW0.out.1
  have e0 := Ext.cell F2.out.d0; have e1 := Ext.cell F2.out.d1; have e2 := Ext.cell F2.out.d2; have e3 := Ext.cell F2.out.d3; have et := Ext.cell hct0; have et0 := Ext.cell hq0
  clear ht0 hct0 hrt0 hq0
  refine Mix.wp_region_mix [0, 3, 1, 0, 0, 3, 1, 0, 0, 0, 3, 1, 0, 0, 0, 3, 0, 3, 1, 0, 2] (fun w' => ∃ x : Ext wb, w' = x.w) (by kernel_rfl) (by kernel_rfl) (InExt.drew _) ?_
  repeat (first | (refine Mix.wpMix_read (by rfl) ?_; go_big_quiet_step (fail); refine wpQuiet_nil ?_) | (refine Mix.wpMix_pure (by rfl) ?_; go_big_quiet_step (fail); refine wpQuiet_nil ?_))
  refine Mix.wpMix_chg (by rfl) (fun K hK => ?_)
  go_wp2_with fail
  refine (Decimal_c s _ (by omega) (by omega) (by exact HT1.out.drew)).mono ?_
  rintro e w3 ⟨rfl, hb3⟩
  have E3 := Lib.hid (show Below wb.heap.size wb w3 from below_of_drew hb3)
  clear hb3
  go_wp2_with fail
  refine hK _ _ ⟨⟨_, E3.out⟩, rfl⟩ ?_
  clear hK K
  repeat (first | (refine Mix.wpMix_read (by rfl) ?_; go_big_quiet_step (fail); refine wpQuiet_nil ?_) | (refine Mix.wpMix_pure (by rfl) ?_; go_big_quiet_step (fail); refine wpQuiet_nil ?_))
  refine Mix.wpMix_chg (by rfl) (fun K hK => ?_)
  go_wp2_with fail
  refine (Decimal_c hd _ (by omega) (by omega) (by exact HT1.out.below E3.out)).mono ?_
  rintro e w4 ⟨rfl, hb4⟩
  have E4 := Lib.hid (below_chain E3.out E3.out.size hb4)
  clear hb4
  go_wp2_with fail
  refine hK _ _ ⟨⟨_, E4.out⟩, rfl⟩ ?_
  clear hK K
  repeat (first | (refine Mix.wpMix_read (by rfl) ?_; go_big_quiet_step (fail); refine wpQuiet_nil ?_) | (refine Mix.wpMix_pure (by rfl) ?_; go_big_quiet_step (fail); refine wpQuiet_nil ?_))
  refine Mix.wpMix_chg (by rfl) (fun K hK => ?_)
  go_wp2_with fail
  refine (Decimal_c a _ (by omega) (by omega) (by exact HT1.out.below E4.out)).mono ?_
  rintro e w5 ⟨rfl, hb5⟩
  have E5 := Lib.hid (below_chain E4.out E4.out.size hb5)
  clear hb5
  go_wp2_with fail
  refine hK _ _ ⟨⟨_, E5.out⟩, rfl⟩ ?_
  clear hK K
  repeat (first | (refine Mix.wpMix_read (by rfl) ?_; go_big_quiet_step (fail); refine wpQuiet_nil ?_) | (refine Mix.wpMix_pure (by rfl) ?_; go_big_quiet_step (fail); refine wpQuiet_nil ?_))
  refine Mix.wpMix_chg (by rfl) (fun K hK => ?_)
  go_wp2_with fail
  refine (digitsText_c t0.A t0.n t0.c t0.xs _ (by exact RdI.below HRT0.out E5.out) (by omega) HTW0.out.2).mono ?_
  rintro e w6 ⟨rfl, hb6⟩
  have E6 := Lib.hid (below_chain E5.out E5.out.size hb6)
  clear hb6
  go_wp2_with fail
  refine hK _ _ ⟨⟨_, E6.out⟩, rfl⟩ ?_
  clear hK K
  repeat (first | (refine Mix.wpMix_read (by rfl) ?_; go_big_quiet_step (fail); refine wpQuiet_nil ?_) | (refine Mix.wpMix_pure (by rfl) ?_; go_big_quiet_step (fail); refine wpQuiet_nil ?_))
  rw [foHead_bs, HH0.out]
  have BF6 := Lib.hid (bld_below BF.out E6.out)
  have hz6 : w1.heap.size ≤ w6.heap.size := Nat.le_trans EB.out.size E6.out.size
  have hl6 : ([] : List Value).length + (bs (foPre (foHead s hd a) (its0.map It.xs) (its1.map It.xs) os 0)).size ≤ 140737488355328 := by have h1 := foPre_len OK.out 0 (by omega); rw [bs_size]; simp only [List.length_nil]; omega
  refine Mix.wpMix_tail (by rfl) (fun K hK => ?_)
  go_wp2_with fail
  refine (Tryd.Builder_WriteString_k w1.heap.size w1.heap.size [] (bs (foPre (foHead s hd a) (its0.map It.xs) (its1.map It.xs) os 0)) _ BF6.out hl6 hz6).mono ?_
  rintro e w7 ⟨rfl, hf7, hb7, hk7⟩
  have B7 := Lib.hid (show Below w1.heap.size w1 w7 from (EB.out.trans (E6.out.mono EB.out.size)).trans hb7)
  have G7 := Lib.hid (show Lib.IsBuilderF 110 5 w1.heap.size w1.heap.size (Lib.byteCells (foPre (foHead s hd a) (its0.map It.xs) (its1.map It.xs) os 0)) w7 by rw [List.nil_append, bs_cells] at hf7; exact Or.inr hf7)
  clear hf7 hb7 hk7
  go_wp2_with fail
  refine hK _ _ ?_
  clear hK K
  (refine Mix.wpMix_nil ?_; try simp only [Exit.then])
  clear e0 e1 e2 e3 et et0 z1 z2 z3 z4 o1 o2 o3 hl6 hz6
  have F7 := Lib.hid (F1.out.below B7.out)
  have f4 := F7.out.d4
  go_wp2_with fail
  go_loopw [36] (fun iv wr => ∃ k : Nat, iv = .int .i64 k ∧ k ≤ n1 ∧ Lib.IsBuilderF 110 5 w1.heap.size w1.heap.size (Lib.byteCells (foPre (foHead s hd a) (its0.map It.xs) (its1.map It.xs) os k)) wr ∧ Below w1.heap.size w1 wr) (fun iv _ => n1 - (intOf iv).toNat)
  case atStart => exact ⟨0, rfl, by omega, G7.out, B7.out⟩
  case round =>
    clear f4
    obtain ⟨k, rfl, hk, hbf, hb⟩ := hrel
    have HB := Lib.hid hb; have HF := Lib.hid hbf
    have F3 := Lib.hid (F1.out.below hb)
    have hbs := hb.size
    by_cases hlt : k < n1
    · obtain ⟨ad1, u, rfl, hab1, hu, hcu, hru⟩ := RdII.at_ F3.out.r1 hlt
      obtain ⟨ad2, o, rfl, hab2, ho, hco⟩ := F3.out.r2.at_ hlt
      obtain ⟨_, t, e9, hab, ht, hct, hrt⟩ := RdII.at_ F3.out.r0 (show k + 1 < n1 + 1 by omega)
      injection e9 with e9; subst e9
      have HUW := Lib.hid (OK.out.rs u.xs (List.mem_map_of_mem (List.mem_of_getElem? hu)))
      have HTW := Lib.hid (OK.out.ws t.xs (List.mem_map_of_mem (List.mem_of_getElem? ht)))
      have hob := OK.out.os o (List.mem_of_getElem? ho)
      have HRU := Lib.hid (show RdI wr u.A u.n u.xs from hru.head)
      have HRT := Lib.hid (show RdI wr t.A t.n t.xs from hrt.head)
      have hun : u.n ≤ 20 := by have h1 := RdI.len HRU.out; have h2 := HUW.out.1; omega
      have htn : t.n ≤ 100 := by have h1 := RdI.len HRT.out; have h2 := HTW.out.1; omega
      have HRP := Lib.hid (foRp_bs (rs := its1.map It.xs) (os := os) (i := k) (xs := u.xs) (o := o) (getD_map hu) (by simp [List.getD_eq_getElem?_getD, ho]))
      have HST := Lib.hid (show Lib.byteCells (foPre (foHead s hd a) (its0.map It.xs) (its1.map It.xs) os k) ++ Lib.strCells (bs (foRp (its1.map It.xs) os k) ++ bs (digT t.xs)) = Lib.byteCells (foPre (foHead s hd a) (its0.map It.xs) (its1.map It.xs) os (k + 1)) by rw [foPre_succ, getD_map ht, bs_add, bs_cells]; simp only [byteCells_app, List.append_assoc])
      have y1 : (bs (digT u.xs)).size ≤ 20 := by rw [bs_size, digT_len]; exact HUW.out.1
      have y2 : (bs (Lib.itoa o)).size ≤ 21 := by rw [bs_size]; exact itoa_len (by omega)
      have y3 : (bs (digT t.xs)).size ≤ 100 := by rw [bs_size, digT_len]; exact HTW.out.1
      have hln : (Lib.byteCells (foPre (foHead s hd a) (its0.map It.xs) (its1.map It.xs) os k)).length + (bs (foRp (its1.map It.xs) os k) ++ bs (digT t.xs)).size ≤ 140737488355328 := by
        have h1 := foPre_len OK.out k (by rw [List.length_map, HL1.out]; exact hk)
        have h2 := foRp_len OK.out (i := k) (by rw [List.length_map, HL1.out]; exact hlt)
        rw [ByteArray.size_append, bs_size, bs_size, digT_len]
        have h3 := HTW.out.1
        simp only [Lib.byteCells, List.length_map]
        omega
      have HLN := Lib.hid hln
      clear hln
      have HT3 := Lib.hid ((HT.out.below T.out).below hb)
      have f1 := F3.out.d4
      clear hu ho ht hru hrt hb hbf
      have e3 := Ext.cell F3.out.d3; have e5 := Ext.cell F3.out.d5; have eo := Ext.cell hco; have et := Ext.cell (show wr.cell? ⟨ad0.block, ad0.off + (k + 1), none⟩ = some (.slice t.A t.n t.c) by rw [← addrS0]; exact hct)
      clear hct
      go_wp2_with fail
      refine Mix.wp_region_mix [0, 1, 0, 0, 0, 3, 0, 0, 3, 1, 0, 0, 0, 3, 0, 0, 0, 3, 1, 0, 2] (fun w' => ∃ x : Ext wr, w' = x.w) (by kernel_rfl) (by kernel_rfl) (InExt.drew _) ?_
      repeat (first | (refine Mix.wpMix_read (by rfl) ?_; go_big_quiet_step (fail); refine wpQuiet_nil ?_) | (refine Mix.wpMix_pure (by rfl) ?_; go_big_quiet_step (fail); refine wpQuiet_nil ?_))
      refine Mix.wpMix_chg (by rfl) (fun K hK => ?_)
      go_wp2_with fail
      refine (digitsText_c u.A u.n u.c u.xs _ (by exact RdI.drew HRU.out) (by omega) HUW.out.2).mono ?_
      rintro e w8 ⟨rfl, hb8⟩
      have E8 := Lib.hid (show Below wr.heap.size wr w8 from below_of_drew hb8)
      clear hb8
      go_wp2_with fail
      refine hK _ _ ⟨⟨_, E8.out⟩, rfl⟩ ?_
      clear hK K
      repeat (first | (refine Mix.wpMix_read (by rfl) ?_; go_big_quiet_step (fail); refine wpQuiet_nil ?_) | (refine Mix.wpMix_pure (by rfl) ?_; go_big_quiet_step (fail); refine wpQuiet_nil ?_))
      refine Mix.wpMix_chg (by rfl) (fun K hK => ?_)
      go_wp2_with fail
      refine (Decimal_c o _ (by omega) (by omega) (by exact HT3.out.below E8.out)).mono ?_
      rintro e w9 ⟨rfl, hb9⟩
      have E9 := Lib.hid (below_chain E8.out E8.out.size hb9)
      clear hb9
      go_wp2_with fail
      refine hK _ _ ⟨⟨_, E9.out⟩, rfl⟩ ?_
      clear hK K
      repeat (first | (refine Mix.wpMix_read (by rfl) ?_; go_big_quiet_step (fail); refine wpQuiet_nil ?_) | (refine Mix.wpMix_pure (by rfl) ?_; go_big_quiet_step (fail); refine wpQuiet_nil ?_))
      refine Mix.wpMix_chg (by rfl) (fun K hK => ?_)
      go_wp2_with fail
      refine (digitsText_c t.A t.n t.c t.xs _ (by exact RdI.below HRT.out E9.out) (by omega) HTW.out.2).mono ?_
      rintro e wx ⟨rfl, hbx⟩
      have EX := Lib.hid (below_chain E9.out E9.out.size hbx)
      clear hbx
      go_wp2_with fail
      refine hK _ _ ⟨⟨_, EX.out⟩, rfl⟩ ?_
      clear hK K
      repeat (first | (refine Mix.wpMix_read (by rfl) ?_; go_big_quiet_step (fail); refine wpQuiet_nil ?_) | (refine Mix.wpMix_pure (by rfl) ?_; go_big_quiet_step (fail); refine wpQuiet_nil ?_))
      rw [HRP.out]
      have BFX := Lib.hid (bld_below HF.out EX.out)
      have hzx : w1.heap.size ≤ wx.heap.size := Nat.le_trans hbs EX.out.size
      refine Mix.wpMix_tail (by rfl) (fun K hK => ?_)
      go_wp2_with fail
      refine (Tryd.Builder_WriteString_k w1.heap.size w1.heap.size _ (bs (foRp (its1.map It.xs) os k) ++ bs (digT t.xs)) _ BFX.out HLN.out hzx).mono ?_
      rintro e wy ⟨rfl, hfy, hby, hky⟩
      have BY := Lib.hid (show Below w1.heap.size w1 wy from (HB.out.trans (EX.out.mono hbs)).trans hby)
      have GY := Lib.hid (show Lib.IsBuilderF 110 5 w1.heap.size w1.heap.size (Lib.byteCells (foPre (foHead s hd a) (its0.map It.xs) (its1.map It.xs) os (k + 1))) wy by rw [HST.out] at hfy; exact Or.inr hfy)
      clear hfy hby hky
      go_wp2_with fail
      refine hK _ _ ?_
      clear hK K
      (refine Mix.wpMix_nil ?_; try simp only [Exit.then])
      clear e3 e5 eo et
      go_wp2_with fail
      go_roundw
      case rel => exact ⟨k + 1, by go_num, by omega, GY.out, BY.out⟩
      case measure => simp [intOf]; omega
    · obtain rfl : k = n1 := by omega
      have HLL := Lib.hid (show (its1.map It.xs).length = k by rw [List.length_map]; exact HL1.out)
      clear hb hbf
      go_wp2_with (go_at_call 68; refine (Tryd.Builder_String_any_k _ _ (foPre (foHead s hd a) (its0.map It.xs) (its1.map It.xs) os k) _ HF.out hbs).mono ?_; rintro e w2 ⟨rfl, hf1, hb1, hk1⟩)
      go_ret
      exact ⟨by rw [HZ.out, HLL.out]; rfl, T.out.trans ((HB.out.trans hb1).mono T.out.size)⟩
end Go.Proofs.YtfbmjlohdhogmaaDoor
