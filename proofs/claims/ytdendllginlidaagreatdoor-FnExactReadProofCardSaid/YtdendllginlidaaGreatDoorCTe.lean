/-
  Texts of proofs (l25Text, ProofText).
-/
import Derived.Test.YtdendllginlidaaGreatDoorCTc
import Derived.Test.YtdendllginlidaaGreatDoorC25
import Derived.Test.YtdendllginlidaaGreatDoorMixV
namespace Go.Proofs.YtdendllginlidaaGreatDoor
open Go.RowKit

def nameL : Nat → List UInt8
  | 1 => [104, 97, 108, 116]
  | 2 => [99, 121, 99, 108, 101]
  | 3 => [115, 104, 105, 102, 116]
  | 4 => [98, 97, 99, 107, 119, 97, 114, 100]
  | 5 => [115, 101, 103, 109, 101, 110, 116]
  | 6 => [98, 111, 117, 110, 99, 101, 114]
  | 7 => [97, 117, 116, 111, 109, 97, 116, 111, 110]
  | 8 => [99, 111, 110, 116, 101, 120, 116, 115]
  | _ => []
def namesA : Array Value := #[.string ⟨#[]⟩, .string ⟨#[104, 97, 108, 116]⟩, .string ⟨#[99, 121, 99, 108, 101]⟩, .string ⟨#[115, 104, 105, 102, 116]⟩, .string ⟨#[98, 97, 99, 107, 119, 97, 114, 100]⟩, .string ⟨#[115, 101, 103, 109, 101, 110, 116]⟩, .string ⟨#[98, 111, 117, 110, 99, 101, 114]⟩, .string ⟨#[97, 117, 116, 111, 109, 97, 116, 111, 110]⟩, .string ⟨#[99, 111, 110, 116, 101, 120, 116, 115]⟩]
theorem namesA_at {k : Nat} (h1 : 1 ≤ k) (h8 : k ≤ 8) : namesA[k]? = some (.string (bs (nameL k))) := by
  have h : k = 1 ∨ k = 2 ∨ k = 3 ∨ k = 4 ∨ k = 5 ∨ k = 6 ∨ k = 7 ∨ k = 8 := by omega
  rcases h with rfl | rfl | rfl | rfl | rfl | rfl | rfl | rfl <;> rfl
theorem nameL_len (k : Nat) : (nameL k).length ≤ 9 := by
  unfold nameL; split <;> simp
/-- the names' block -/
def fNm : MixA.Fact1 := fun _ v lo hi w => ∃ g', v = .slice (some ⟨g', 0, none⟩) 9 9 ∧ lo ≤ g' ∧ g' < hi ∧ Blk w g' 9 namesA
theorem fNm_st : MixA.Stab fNm := fun _ _ _ _ _ _ hb h => by obtain ⟨g, e, h1, h2, h3⟩ := h; exact ⟨g, e, h1, h2, h3.keep hb⟩
/-- the name's place -/
def fIx (k : Nat) : MixA.Fact1 := fun l v _ _ _ => ∃ g', l.getD 0 undef = .slice (some ⟨g', 0, none⟩) 9 9 ∧ v = .pointer (some ⟨g', k, none⟩)
theorem fIx_st (k : Nat) : MixA.Stab (fIx k) := fun _ _ _ _ _ _ _ h => h
/-- a proof's text -/
def prText (k : Nat) (xs : List Int) (xss : List (List Int)) : List UInt8 := nameL k ++ [58] ++ listT xs ++ [58] ++ Lib.join (xss.map wordT) [44]
def prR (kd : Int) (xs : List Int) (xss : List (List Int)) : List UInt8 := if proofB kd xs xss = true then prText kd.toNat xs xss else []
theorem wordT_len (xs : List Int) : (wordT xs).length ≤ xs.length + 1 := by
  unfold wordT; split
  · simp
  · rw [digT_len]; omega
theorem words_len {xss : List (List Int)} (h : ∀ xs ∈ xss, xs.length ≤ 400) (k : Nat) : (Lib.join ((xss.map wordT).take k) [44]).length ≤ 402 * k := by
  have h1 := join_len [44] (L := (xss.map wordT).take k) (b := 401) (fun y hy => by
    obtain ⟨x, hx, rfl⟩ := List.mem_map.1 (List.mem_of_mem_take hy)
    have := wordT_len x; have := h x hx; omega)
  have h2 : ((xss.map wordT).take k).length ≤ k := by rw [List.length_take]; omega
  have h3 := Nat.mul_le_mul_left ([44].length + 401) h2
  simp only [List.length_cons, List.length_nil] at h1 h3
  omega
theorem listT_len {xs : List Int} (h : i64s xs) : (listT xs).length ≤ 22 * xs.length + 1 := by
  unfold listT; split
  · simp
  · have h1 := csv_len (sep := 44) h xs.length
    rw [List.take_of_length_le (by simp)] at h1
    omega
def preT (k : Nat) (xs : List Int) : List UInt8 := nameL k ++ [58] ++ listT xs ++ [58]
theorem preT_len (k : Nat) {xs : List Int} (h : i64s xs) (hl : xs.length ≤ 1000) : (preT k xs).length ≤ 30000 := by
  have h1 := nameL_len k; have h2 := listT_len h
  unfold preT
  simp only [List.length_append, List.length_cons, List.length_nil]
  omega
theorem ProofP.below {w w' : World} {g : Nat} {kd : Int} {A : Option Addr} {n cp : Nat} {xs : List Int} {A' : Option Addr} {n' cp' : Nat} {its : List It} (h : ProofP w g kd A n cp xs A' n' cp' its) (hb : Below w.heap.size w w') : ProofP w' g kd A n cp xs A' n' cp' its :=
  ⟨keepc hb h.c0, keepc hb h.c1, keepc hb h.c2, RdI.below h.rd hb, h.rd'.below hb⟩
set_option maxRecDepth 100000 in
theorem l25Names_c (w : World) : Calls Tryz.prog 62 #[] w fun e w' => e = .returned (.slice (some ⟨w.heap.size, 0, none⟩) 9 9) ∧ Below w.heap.size w w' ∧ w.heap.size < w'.heap.size ∧ Blk w' w.heap.size 9 namesA := by
  go_enter Tryz.func62, Tryz.ntmps62
  go_wp2_with fail
  go_ret
  exact ⟨rfl, below_size.alloc (Nat.le_refl _) _, by simp, Blk.new w _ _⟩
theorem prR_no {kd : Int} {xs : List Int} {xss : List (List Int)} (h : proofB kd xs xss = false) : prR kd xs xss = [] := by rw [prR, h]; rfl
theorem proofB_bd {kd : Int} {xs : List Int} {its : List It} (h : proofB kd xs (its.map It.xs) = true) : (1 ≤ kd ∧ kd ≤ 8) ∧ xs.length ≤ 300 ∧ its.length ≤ 300 ∧ i64s xs ∧ ∀ t ∈ its, t.xs.length ≤ 400 ∧ dgs t.xs := by
  simp only [proofB, Bool.and_eq_true, decide_eq_true_eq, List.length_map] at h
  refine ⟨inB_t h.1.1.1.1, by omega, by omega, fun x hx => ?_, fun t ht => ?_⟩
  · have := allB_mem h.1.2 x hx; omega
  · have h1 := List.all_eq_true.1 h.2 t.xs (List.mem_map_of_mem ht)
    simp only [wordB, Bool.and_eq_true, decide_eq_true_eq] at h1
    exact ⟨by omega, fun x hx => allB_mem h1.2 x hx⟩
set_option maxHeartbeats 1000000 in
theorem ProofName_v (k : Nat) (w : World) (hk1 : 1 ≤ k) (hk8 : k ≤ 8) : Calls Tryz.prog 72 #[.int .i64 k] w fun e w' => e = .returned (.string (bs (nameL k))) ∧ Below w.heap.size w w' := by
  have h8 : k = 1 ∨ k = 2 ∨ k = 3 ∨ k = 4 ∨ k = 5 ∨ k = 6 ∨ k = 7 ∨ k = 8 := by omega
  clear hk1 hk8
  rcases h8 with rfl | rfl | rfl | rfl | rfl | rfl | rfl | rfl
  all_goals
    go_enter Tryz.func72, Tryz.ntmps72
    go_wp2_with (first | (go_at_call 67; refine (within_c _ _ _ _).mono ?_; rintro e w' ⟨rfl, rfl⟩) | go_in)
    go_ret
    exact ⟨rfl, below_size.alloc (Nat.le_refl _) _⟩
set_option maxHeartbeats 2000000 in
set_option maxRecDepth 100000 in
theorem iProofText_c (kd : Int) (A : Option Addr) (n cp : Nat) (xs : List Int) (A' : Option Addr) (n' cp' : Nat) (its : List It) (w : World) (h : RdS w ([sgI A n xs] ++ sgII A' n' its)) (hn : n ≤ 1000000000 ∧ n' ≤ 1000000000) (hi : ∀ t ∈ its, t.n ≤ 1000000000) (ht : Tab w) :
    Calls Tryz.prog 44 #[.agg #[.int .i64 kd, .slice A n cp, .slice A' n' cp']] w fun e w' => e = .returned (.string (bs (prR kd xs (its.map It.xs)))) ∧ Below w.heap.size w w' := by
  have H := Lib.hid h; clear h
  have HT := Lib.hid ht; clear ht
  cases hq : proofB kd xs (its.map It.xs)
  · have HR := Lib.hid (prR_no hq)
    go_enter Tryz.func44, Tryz.ntmps44
    go_wp2_with fail
    refine (iValidProof_c kd A n cp xs A' n' cp' its _ (by exact H.out.alloc _) hn hi).mono ?_
    rw [hq]
    rintro e w1 ⟨rfl, hb⟩
    have B1 := Lib.hid (up1 hb); clear hb
    clear hq
    go_wp2_with fail
    go_ret
    exact ⟨by rw [HR.out]; rfl, B1.out⟩
  · have hbd := proofB_bd hq
    have hl1 : xs.length = n := RdI.len H.out.left.head
    have hl2 : its.length = n' := RdII.len H.out.right
    have HBD := Lib.hid hbd
    have HR := Lib.hid (show prR kd xs (its.map It.xs) = prText kd.toNat xs (its.map It.xs) by rw [prR, if_pos hq])
    have hn1 : n ≤ 300 := by omega
    have hn2 : n' ≤ 300 := by omega
    obtain ⟨k, rfl⟩ : ∃ k : Nat, kd = k := ⟨kd.toNat, by omega⟩
    have hk1 : 1 ≤ k := by omega
    have hk8 : k ≤ 8 := by omega
    have HL1 := Lib.hid hl1
    clear hbd hl1 hl2
    go_enter Tryz.func44, Tryz.ntmps44
    go_wp2_with fail
    refine (iValidProof_c k A n cp xs A' n' cp' its _ (by exact H.out.alloc _) hn hi).mono ?_
    rw [hq]
    rintro e w1 ⟨rfl, hb⟩
    have q0 : w1.cell? ⟨w.heap.size, 0, none⟩ = some (i64 k) := keepc hb (by simp)
    have q1 : w1.cell? ⟨w.heap.size, 1, none⟩ = some (.slice A n cp) := keepc hb (by simp)
    have q2 : w1.cell? ⟨w.heap.size, 2, none⟩ = some (.slice A' n' cp') := keepc hb (by simp)
    have Q0 := Lib.hid q0; have Q1 := Lib.hid q1; have Q2 := Lib.hid q2
    have B1 := Lib.hid (up1 hb); clear hb
    clear hq q0 q1 q2
    by_cases h0 : n = 0
    · have g0 : decide (0 < n) = false := by rw [decide_eq_false_iff_not]; omega
      have HN := Lib.hid (show listT xs = [45] by rw [listT, if_pos (List.length_eq_zero_iff.1 (HL1.out.trans h0))])
      have q1 := fun o => keepa o Q1.out
      have q2 := fun o => keepa o Q2.out
      clear h0
      go_wp2_with fail
      obtain ⟨wz, hwz⟩ : ∃ wz, w1.alloc (.cells #[] 9) = wz := ⟨_, rfl⟩
      have BZ := Lib.hid (show Below w1.heap.size w1 wz by rw [← hwz]; exact below_size.alloc (Nat.le_refl _) _)
      have OZ := Lib.hid (show Own wz w1.heap.size 9 1 (some ⟨w1.heap.size, 0, none⟩) 0 0 [] by rw [← hwz]; exact Own.lit (Nat.le_refl _))
      rw [show (ByteArray.mk #[45]) = bs (listT xs) by rw [HN.out]; rfl]
      first | rw [hwz] | skip
      clear hwz q1 q2 HN
      have lx : (bs (listT xs)).size ≤ 30000 := by rw [bs_size]; have h1 := listT_len HBD.out.2.2.2.1; have h2 := HL1.out; omega
      have ln : (bs (nameL k)).size ≤ 9 := by rw [bs_size]; exact nameL_len k
      have HIT := Lib.hid (show RdS w1 (sgII A' n' its) from H.out.right.below B1.out)
      go_loopw [4, 21] (fun v iv wr => ∃ (i : Nat) (C : Option Addr) (cc : Nat), iv = .int .i64 i ∧ v = .slice C i cc ∧ i ≤ n' ∧ Own wr w1.heap.size 9 1 C i cc ((((its.map It.xs).map wordT).take i).map fun l => .string (bs l)) ∧ Below w1.heap.size w1 wr) (fun _ iv _ => n' - (intOf iv).toNat)
      case atStart => exact ⟨0, _, _, rfl, rfl, by omega, OZ.out, BZ.out⟩
      case round =>
        obtain ⟨i, C, cc, rfl, rfl, hi, own, hb⟩ := hrel
        have HO := Lib.hid own; have HB := Lib.hid hb
        have hbs := hb.size
        by_cases hlt : i < n'
        · obtain ⟨ad, t, rfl, hab, ht, hct, hrt⟩ := RdII.at_ (HIT.out.below hb) hlt
          have htw := HBD.out.2.2.2.2 t (List.mem_of_getElem? ht)
          have htl : t.n ≤ 400 := by have h1 := hrt.head.1; simp [sgI] at h1; omega
          have HRT := Lib.hid (show RdI wr t.A t.n t.xs from hrt.head)
          have HTW := Lib.hid htw
          have HE := Lib.hid (show (((its.map It.xs).map wordT).take (i + 1)).map (fun l => Value.string (bs l)) = (((its.map It.xs).map wordT).take i).map (fun l => Value.string (bs l)) ++ [.string (bs (wordT t.xs))] by rw [List.take_add_one, List.getElem?_map, List.getElem?_map, ht]; simp)
          clear ht hrt htw hb own
          go_wp2_with (first
            | (go_at_call 71; refine (wordText_c t.A t.n t.c t.xs _ (by exact HRT.out) (by omega) HTW.out.2).mono ?_; rintro e w2 ⟨rfl, hb2⟩; have B2 := Lib.hid (HB.out.trans (hb2.mono HB.out.size)); have O2 := Lib.hid (HO.out.keep hb2); have z2 := hb2.size; clear hb2 HO HB)
            | (at_builtin; refine wp_app1 (by rfl) _ _ 51 9 (.string ⟨#[]⟩) 16 (by rfl) Tryz.underlying51 info_str rfl w1.heap.size C i cc ((((its.map It.xs).map wordT).take i).map fun l => .string (bs l)) (by rfl) (by exact O2.out.alloc _) w2.heap.size (.string (bs (wordT t.xs))) (by rfl) (by exact new_cell _ _ _ 0) rfl (by omega) (by omega) (by simp; omega) ?_; intro g' cap w3 own3 hb3 hk3 hg3 hz3))
          have O3 := Lib.hid own3; have HB3 := Lib.hid hb3
          clear own3 hb3 hk3 hg3 hz3
          go_wp2_with fail
          go_roundw
          case rel => exact ⟨i + 1, some ⟨g', 0, none⟩, cap, by go_num, rfl, by omega, by rw [HE.out]; exact O3.out, (B2.out.alloc B2.out.size _).trans HB3.out⟩
          case measure => simp [intOf]; omega
        · obtain rfl : i = n' := by omega
          have hil := RdII.len HIT.out
          have HF := Lib.hid (show ((its.map It.xs).map wordT).take i = (its.map It.xs).map wordT from List.take_of_length_le (by simp [hil]))
          have hjl : (Lib.join ((its.map It.xs).map wordT) [44]).length ≤ 1000000 := by
            have h1 := words_len (xss := its.map It.xs) (fun x hx => by obtain ⟨u, hu, rfl⟩ := List.mem_map.1 hx; exact (HBD.out.2.2.2.2 u hu).1) i
            rw [HF.out] at h1; omega
          obtain ⟨JT, hJT⟩ : ∃ JT, Lib.join ((its.map It.xs).map wordT) [44] = JT := ⟨_, rfl⟩
          have HJT := Lib.hid hJT
          have hjs : (bs JT).size ≤ 1000000 := by rw [bs_size, ← hJT]; exact hjl
          clear hJT
          have r0 := keepc hb Q0.out
          clear hb own
          go_wp2_with (first
            | (go_at_call 72; refine (ProofName_v k _ hk1 hk8).mono ?_; rintro e w2 ⟨rfl, hb2⟩; have B2 := Lib.hid (HB.out.trans (hb2.mono HB.out.size)); have O2 := Lib.hid (HO.out.keep hb2); clear hb2 HO HB)
            | (go_at_call 73; refine (Join_c C i cc w1.heap.size ((its.map It.xs).map wordT) [44] _ (by have := O2.out; rw [HF.out] at this; exact this) (by omega) (by omega)).mono ?_; rw [HJT.out]; rintro e w3 ⟨rfl, hb3⟩; have B3 := Lib.hid (B2.out.trans (hb3.mono B2.out.size)); clear hb3))
          go_ret
          have HPT := Lib.hid (show bs (nameL k) ++ ⟨#[58]⟩ ++ bs (listT xs) ++ ⟨#[58]⟩ ++ bs JT = bs (prText k xs (its.map It.xs)) by rw [← HJT.out, show (⟨#[58]⟩ : ByteArray) = bs [58] from rfl]; simp only [bs_add, prText])
          exact ⟨by rw [HR.out]; show _ = Ending.returned (.string (bs (prText k xs (its.map It.xs)))); rw [← HPT.out]; rfl, B1.out.trans (B3.out.mono B1.out.size)⟩
    · have g0 : decide (0 < n) = true := by rw [decide_eq_true_eq]; omega
      have HN := Lib.hid (show Lib.join (xs.map Lib.itoa) [44] = listT xs by rw [listT, if_neg (fun h => h0 (by rw [← HL1.out, h]; rfl))])
      have q1 := fun o => keepa o Q1.out
      have q2 := fun o => keepa o Q2.out
      have HXS := Lib.hid (show RdI w1 A n xs from RdI.below H.out.left.head B1.out)
      clear h0
      go_wp2_with (go_at_call 70; refine (decimals_c A n cp xs 44 _ (by exact RdI.alloc HXS.out _) (by omega) HBD.out.2.2.2.1 (by exact (HT.out.below B1.out).alloc _)).mono ?_; rintro e wz ⟨rfl, hbz⟩; have r2 := keepc hbz (q2 _))
      have BZ := Lib.hid (show Below w1.heap.size w1 wz from (below_size.alloc (Nat.le_refl _) _).trans (hbz.mono (by simp)))
      have OZ := Lib.hid (show Own wz w1.heap.size 9 1 (some ⟨w1.heap.size, 0, none⟩) 0 0 [] from (Own.lit (Nat.le_refl _)).keep hbz)
      rw [HN.out]
      clear hbz q1 q2 r2 HN HXS
      have lx : (bs (listT xs)).size ≤ 30000 := by rw [bs_size]; have h1 := listT_len HBD.out.2.2.2.1; have h2 := HL1.out; omega
      have ln : (bs (nameL k)).size ≤ 9 := by rw [bs_size]; exact nameL_len k
      have HIT := Lib.hid (show RdS w1 (sgII A' n' its) from H.out.right.below B1.out)
      go_loopw [4, 21] (fun v iv wr => ∃ (i : Nat) (C : Option Addr) (cc : Nat), iv = .int .i64 i ∧ v = .slice C i cc ∧ i ≤ n' ∧ Own wr w1.heap.size 9 1 C i cc ((((its.map It.xs).map wordT).take i).map fun l => .string (bs l)) ∧ Below w1.heap.size w1 wr) (fun _ iv _ => n' - (intOf iv).toNat)
      case atStart => exact ⟨0, _, _, rfl, rfl, by omega, OZ.out, BZ.out⟩
      case round =>
        obtain ⟨i, C, cc, rfl, rfl, hi, own, hb⟩ := hrel
        have HO := Lib.hid own; have HB := Lib.hid hb
        have hbs := hb.size
        by_cases hlt : i < n'
        · obtain ⟨ad, t, rfl, hab, ht, hct, hrt⟩ := RdII.at_ (HIT.out.below hb) hlt
          have htw := HBD.out.2.2.2.2 t (List.mem_of_getElem? ht)
          have htl : t.n ≤ 400 := by have h1 := hrt.head.1; simp [sgI] at h1; omega
          have HRT := Lib.hid (show RdI wr t.A t.n t.xs from hrt.head)
          have HTW := Lib.hid htw
          have HE := Lib.hid (show (((its.map It.xs).map wordT).take (i + 1)).map (fun l => Value.string (bs l)) = (((its.map It.xs).map wordT).take i).map (fun l => Value.string (bs l)) ++ [.string (bs (wordT t.xs))] by rw [List.take_add_one, List.getElem?_map, List.getElem?_map, ht]; simp)
          clear ht hrt htw hb own
          go_wp2_with (first
            | (go_at_call 71; refine (wordText_c t.A t.n t.c t.xs _ (by exact HRT.out) (by omega) HTW.out.2).mono ?_; rintro e w2 ⟨rfl, hb2⟩; have B2 := Lib.hid (HB.out.trans (hb2.mono HB.out.size)); have O2 := Lib.hid (HO.out.keep hb2); have z2 := hb2.size; clear hb2 HO HB)
            | (at_builtin; refine wp_app1 (by rfl) _ _ 51 9 (.string ⟨#[]⟩) 16 (by rfl) Tryz.underlying51 info_str rfl w1.heap.size C i cc ((((its.map It.xs).map wordT).take i).map fun l => .string (bs l)) (by rfl) (by exact O2.out.alloc _) w2.heap.size (.string (bs (wordT t.xs))) (by rfl) (by exact new_cell _ _ _ 0) rfl (by omega) (by omega) (by simp; omega) ?_; intro g' cap w3 own3 hb3 hk3 hg3 hz3))
          have O3 := Lib.hid own3; have HB3 := Lib.hid hb3
          clear own3 hb3 hk3 hg3 hz3
          go_wp2_with fail
          go_roundw
          case rel => exact ⟨i + 1, some ⟨g', 0, none⟩, cap, by go_num, rfl, by omega, by rw [HE.out]; exact O3.out, (B2.out.alloc B2.out.size _).trans HB3.out⟩
          case measure => simp [intOf]; omega
        · obtain rfl : i = n' := by omega
          have hil := RdII.len HIT.out
          have HF := Lib.hid (show ((its.map It.xs).map wordT).take i = (its.map It.xs).map wordT from List.take_of_length_le (by simp [hil]))
          have hjl : (Lib.join ((its.map It.xs).map wordT) [44]).length ≤ 1000000 := by
            have h1 := words_len (xss := its.map It.xs) (fun x hx => by obtain ⟨u, hu, rfl⟩ := List.mem_map.1 hx; exact (HBD.out.2.2.2.2 u hu).1) i
            rw [HF.out] at h1; omega
          obtain ⟨JT, hJT⟩ : ∃ JT, Lib.join ((its.map It.xs).map wordT) [44] = JT := ⟨_, rfl⟩
          have HJT := Lib.hid hJT
          have hjs : (bs JT).size ≤ 1000000 := by rw [bs_size, ← hJT]; exact hjl
          clear hJT
          have r0 := keepc hb Q0.out
          clear hb own
          go_wp2_with (first
            | (go_at_call 72; refine (ProofName_v k _ hk1 hk8).mono ?_; rintro e w2 ⟨rfl, hb2⟩; have B2 := Lib.hid (HB.out.trans (hb2.mono HB.out.size)); have O2 := Lib.hid (HO.out.keep hb2); clear hb2 HO HB)
            | (go_at_call 73; refine (Join_c C i cc w1.heap.size ((its.map It.xs).map wordT) [44] _ (by have := O2.out; rw [HF.out] at this; exact this) (by omega) (by omega)).mono ?_; rw [HJT.out]; rintro e w3 ⟨rfl, hb3⟩; have B3 := Lib.hid (B2.out.trans (hb3.mono B2.out.size)); clear hb3))
          go_ret
          have HPT := Lib.hid (show bs (nameL k) ++ ⟨#[58]⟩ ++ bs (listT xs) ++ ⟨#[58]⟩ ++ bs JT = bs (prText k xs (its.map It.xs)) by rw [← HJT.out, show (⟨#[58]⟩ : ByteArray) = bs [58] from rfl]; simp only [bs_add, prText])
          exact ⟨by rw [HR.out]; show _ = Ending.returned (.string (bs (prText k xs (its.map It.xs)))); rw [← HPT.out]; rfl, B1.out.trans (B3.out.mono B1.out.size)⟩
end Go.Proofs.YtdendllginlidaaGreatDoor
