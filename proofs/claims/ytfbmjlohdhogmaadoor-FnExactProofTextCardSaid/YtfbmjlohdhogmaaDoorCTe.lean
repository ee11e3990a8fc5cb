/-
  Texts of proofs (l25Text, ProofText).
-/
import Derived.Test.YtfbmjlohdhogmaaDoorCTc
import Derived.Test.YtfbmjlohdhogmaaDoorC25
import Derived.Test.YtfbmjlohdhogmaaDoorMixV
namespace Go.Proofs.YtfbmjlohdhogmaaDoor
open Go.RowKit

def nameL : Nat → List UInt8
  | 1 => [104, 97, 108, 116]
  | 2 => [99, 121, 99, 108, 101]
  | 3 => [115, 104, 105, 102, 116]
  | 4 => [98, 97, 99, 107, 119, 97, 114, 100]
  | 5 => [115, 101, 103, 109, 101, 110, 116]
  | 6 => [98, 111, 117, 110, 99, 101, 114]
  | 7 => [97, 117, 116, 111, 109, 97, 116, 111, 110]
  | 8 => [99, 111, 110, 116, 101, 120, 116, 115]
  | _ => []
def namesA : Array Value := #[.string ⟨#[]⟩, .string ⟨#[104, 97, 108, 116]⟩, .string ⟨#[99, 121, 99, 108, 101]⟩, .string ⟨#[115, 104, 105, 102, 116]⟩, .string ⟨#[98, 97, 99, 107, 119, 97, 114, 100]⟩, .string ⟨#[115, 101, 103, 109, 101, 110, 116]⟩, .string ⟨#[98, 111, 117, 110, 99, 101, 114]⟩, .string ⟨#[97, 117, 116, 111, 109, 97, 116, 111, 110]⟩, .string ⟨#[99, 111, 110, 116, 101, 120, 116, 115]⟩]
theorem namesA_at {k : Nat} (h1 : 1 ≤ k) (h8 : k ≤ 8) : namesA[k]? = some (.string (bs (nameL k))) := by
  have h : k = 1 ∨ k = 2 ∨ k = 3 ∨ k = 4 ∨ k = 5 ∨ k = 6 ∨ k = 7 ∨ k = 8 := by omega
  rcases h with rfl | rfl | rfl | rfl | rfl | rfl | rfl | rfl <;> rfl
theorem nameL_len (k : Nat) : (nameL k).length ≤ 9 := by
  unfold nameL; split <;> simp
/-- the names' block -/
def fNm : MixA.Fact1 := fun _ v lo hi w => ∃ g', v = .slice (some ⟨g', 0, none⟩) 9 9 ∧ lo ≤ g' ∧ g' < hi ∧ Blk w g' 9 namesA
theorem fNm_st : MixA.Stab fNm := fun _ _ _ _ _ _ hb h => by obtain ⟨g, e, h1, h2, h3⟩ := h; exact ⟨g, e, h1, h2, h3.keep hb⟩
/-- the name's place -/
def fIx (k : Nat) : MixA.Fact1 := fun l v _ _ _ => ∃ g', l.getD 0 undef = .slice (some ⟨g', 0, none⟩) 9 9 ∧ v = .pointer (some ⟨g', k, none⟩)
theorem fIx_st (k : Nat) : MixA.Stab (fIx k) := fun _ _ _ _ _ _ _ h => h
/-- a proof's text -/
def prText (k : Nat) (xs : List Int) (xss : List (List Int)) : List UInt8 := nameL k ++ [58] ++ listT xs ++ [58] ++ Lib.join (xss.map wordT) [44]
def prR (kd : Int) (xs : List Int) (xss : List (List Int)) : List UInt8 := if proofB kd xs xss = true then prText kd.toNat xs xss else []
theorem wordT_len (xs : List Int) : (wordT xs).length ≤ xs.length + 1 := by
  unfold wordT; split
  · simp
  · rw [digT_len]; omega
theorem words_len {xss : List (List Int)} (h : ∀ xs ∈ xss, xs.length ≤ 400) (k : Nat) : (Lib.join ((xss.map wordT).take k) [44]).length ≤ 402 * k := by
  have h1 := join_len [44] (L := (xss.map wordT).take k) (b := 401) (fun y hy => by
    obtain ⟨x, hx, rfl⟩ := List.mem_map.1 (List.mem_of_mem_take hy)
    have := wordT_len x; have := h x hx; omega)
  have h2 : ((xss.map wordT).take k).length ≤ k := by rw [List.length_take]; omega
  have h3 := Nat.mul_le_mul_left ([44].length + 401) h2
  simp only [List.length_cons, List.length_nil] at h1 h3
  omega
theorem listT_len {xs : List Int} (h : i64s xs) : (listT xs).length ≤ 22 * xs.length + 1 := by
  unfold listT; split
  · simp
  · have h1 := csv_len (sep := 44) h xs.length
    rw [List.take_of_length_le (by simp)] at h1
    omega
def preT (k : Nat) (xs : List Int) : List UInt8 := nameL k ++ [58] ++ listT xs ++ [58]
theorem preT_len (k : Nat) {xs : List Int} (h : i64s xs) (hl : xs.length ≤ 1000) : (preT k xs).length ≤ 30000 := by
  have h1 := nameL_len k; have h2 := listT_len h
  unfold preT
  simp only [List.length_append, List.length_cons, List.length_nil]
  omega
theorem ProofP.below {w w' : World} {g : Nat} {kd : Int} {A : Option Addr} {n cp : Nat} {xs : List Int} {A' : Option Addr} {n' cp' : Nat} {its : List It} (h : ProofP w g kd A n cp xs A' n' cp' its) (hb : Below w.heap.size w w') : ProofP w' g kd A n cp xs A' n' cp' its :=
  ⟨keepc hb h.c0, keepc hb h.c1, keepc hb h.c2, RdI.below h.rd hb, h.rd'.below hb⟩
set_option maxRecDepth 100000 in
theorem l25Names_c (w : World) : Calls Tryd.prog 90 #[] w fun e w' => e = .returned (.slice (some ⟨w.heap.size, 0, none⟩) 9 9) ∧ Below w.heap.size w w' ∧ w.heap.size < w'.heap.size ∧ Blk w' w.heap.size 9 namesA := by
  go_enter Tryd.func90, Tryd.ntmps90
  go_wp2_with fail
  go_ret
  exact ⟨rfl, below_size.alloc (Nat.le_refl _) _, by simp, Blk.new w _ _⟩
set_option maxHeartbeats 4000000 in
set_option maxRecDepth 100000 in
theorem l25Text_c (g : Nat) (k : Nat) (A : Option Addr) (n c : Nat) (xs : List Int) (A' : Option Addr) (n' c' : Nat) (its : List It) (w : World) (h : ProofP w g k A n c xs A' n' c' its) (hk1 : 1 ≤ k) (hk8 : k ≤ 8) (hn : n ≤ 1000) (hn' : n' ≤ 1000) (hx : i64s xs) (hw : ∀ t ∈ its, t.xs.length ≤ 400 ∧ dgs t.xs) :
    Calls Tryd.prog 55 #[.pointer (some ⟨g, 0, none⟩)] w fun e w' => e = .returned (.string (bs (prText k xs (its.map It.xs)))) ∧ Below w.heap.size w w' := by
  have HP := Lib.hid h; clear h
  have HX := Lib.hid hx; have HW := Lib.hid hw; clear hx hw
  have l1 : (bs (nameL k)).size ≤ 9 := by rw [bs_size]; exact nameL_len k
  have l2 : (bs (listT xs)).size ≤ 30000 := by rw [bs_size]; have := listT_len HX.out; have := HP.out.rd.len; omega
  have EW : ∀ w1 : World, Below w.drew.heap.size w.drew w1 → Below w.heap.size w w1 := fun w1 hb => below_of_drew hb
  go_enter Tryd.func55, Tryd.ntmps55
  go_wp2_with fail
  -- region
  refine MixA.wp_facts 15 [5, 6, 7, 8, 9, 10, 11, 12, 13, 14, 15, 16, 17, 18, 19] [[], [], [1], [2], [3], [0, 4], [5, 0], [6], [], [8], [9], [10], [11], [7, 12], [13]]
    [fNm,
     MixA.fP (.pointer (some ⟨g, 0, none⟩)),
     MixA.fP (.pointer (some ⟨g, 0, none⟩)),
     MixA.fP (.pointer (some ⟨g, 0, none⟩)),
     MixA.fP (.int .i64 k),
     fIx k,
     MixA.fP (.string (bs (nameL k))),
     MixA.fP (.string (bs (nameL k) ++ ⟨#[58]⟩)),
     MixA.fP (.pointer (some ⟨g, 0, none⟩)),
     MixA.fP (.pointer (some ⟨g, 0, none⟩)),
     MixA.fP (.pointer (some ⟨g, 1, none⟩)),
     MixA.fP (.slice A n c),
     MixA.fP (.string (bs (listT xs))),
     MixA.fP (.string (bs (nameL k) ++ ⟨#[58]⟩ ++ bs (listT xs))),
     MixA.fP (.string (bs (nameL k) ++ ⟨#[58]⟩ ++ bs (listT xs) ++ ⟨#[58]⟩))]
    (by kernel_rfl) (by kernel_rfl) (fun t ht => Nat.lt_of_lt_of_eq (show t < 44 by revert t; decide) rfl) ?_ ?_
  · intro f hf
    simp only [List.mem_cons, List.not_mem_nil, or_false] at hf
    rcases hf with rfl | rfl | rfl | rfl | rfl | rfl | rfl | rfl | rfl | rfl | rfl | rfl | rfl | rfl | rfl
    · exact fNm_st
    · exact MixA.fP_st _
    · exact MixA.fP_st _
    · exact MixA.fP_st _
    · exact MixA.fP_st _
    · exact fIx_st _
    · exact MixA.fP_st _
    · exact MixA.fP_st _
    · exact MixA.fP_st _
    · exact MixA.fP_st _
    · exact MixA.fP_st _
    · exact MixA.fP_st _
    · exact MixA.fP_st _
    · exact MixA.fP_st _
    · exact MixA.fP_st _
  simp only [MixA.EachF]
  refine ⟨?_, ?_, ?_, ?_, ?_, ?_, ?_, ?_, ?_, ?_, ?_, ?_, ?_, ?_, ?_, ?_⟩
  · intro a1 w1 hf
    refine MixA.hop ⟨#[undef, undef, undef, undef, undef, undef], []⟩ (by intro cs b e; cases e) rfl (show 5 < 6 by decide) ?_ ?_
    · intro x hx
      simp [Op.operands, Call.operands] at hx
      subst hx
      · rfl
    go_wp2_with fail
    refine (l25Names_c _).mono ?_
    rintro e w2 ⟨rfl, hb2, hz2, hB2⟩
    have B2 := Lib.hid hb2; have Z2 := Lib.hid hz2; have N2 := Lib.hid hB2
    clear hb2 hz2 hB2
    go_wp2_with fail
    exact ⟨B2.out, w1.heap.size, rfl, Nat.le_refl _, Z2.out, N2.out⟩
  · intro a1 w1 hf
    refine MixA.hop ⟨#[(.pointer (some ⟨g, 0, none⟩)), undef, undef, undef, undef, undef, undef], []⟩ (by intro cs b e; cases e) rfl (show 6 < 7 by decide) ?_ ?_
    · intro x hx
      simp [Op.operands] at hx
      rcases hx with rfl
      · exact (hf.was (t := 0) (by decide) rfl).trans rfl
    go_wp2_with fail
    first | exact ⟨below_size, rfl⟩ | exact ⟨_, rfl, below_size, rfl⟩
  · intro a1 w1 hf
    refine MixA.hop ⟨#[undef, undef, undef, undef, undef, undef, (.pointer (some ⟨g, 0, none⟩)), undef], []⟩ (by intro cs b e; cases e) rfl (show 7 < 8 by decide) ?_ ?_
    · intro x hx
      simp [Op.operands] at hx
      rcases hx with rfl
      · exact (hf.pure (j := 1) (by decide) rfl).trans rfl
    go_wp2_with fail
    first | exact ⟨below_size, rfl⟩ | exact ⟨_, rfl, below_size, rfl⟩
  · intro a1 w1 hf
    refine MixA.hop ⟨#[undef, undef, undef, undef, undef, undef, undef, (.pointer (some ⟨g, 0, none⟩)), undef], []⟩ (by intro cs b e; cases e) rfl (show 8 < 9 by decide) ?_ ?_
    · intro x hx
      simp [Op.operands] at hx
      rcases hx with rfl
      · exact (hf.pure (j := 2) (by decide) rfl).trans rfl
    go_wp2_with fail
    first | exact ⟨below_size, rfl⟩ | exact ⟨_, rfl, below_size, rfl⟩
  · intro a1 w1 hf
    have E1 := EW w1 hf.below
    have hc0 : w1.cell? ⟨g, 0, none⟩ = some (i64 k) := keepc E1 HP.out.c0
    clear E1
    refine MixA.hop ⟨#[undef, undef, undef, undef, undef, undef, undef, undef, (.pointer (some ⟨g, 0, none⟩)), undef], []⟩ (by intro cs b e; cases e) rfl (show 9 < 10 by decide) ?_ ?_
    · intro x hx
      simp [Op.operands] at hx
      rcases hx with rfl
      · exact (hf.pure (j := 3) (by decide) rfl).trans rfl
    go_wp2_with fail
    first | exact ⟨below_size, rfl⟩ | exact ⟨_, rfl, below_size, rfl⟩
  · intro a1 w1 hf
    obtain ⟨R, hR, _⟩ := hf.facts
    obtain ⟨g5, hv5, _, _, _⟩ : ∃ g', MixA.val a1 5 = .slice (some ⟨g', 0, none⟩) 9 9 ∧ (R 0).1 ≤ g' ∧ g' < (R 0).2 ∧ Blk w1 g' 9 namesA := (hR 0 (by decide)).1
    have hv9 : MixA.val a1 9 = .int .i64 k := (hR 4 (by decide)).1
    clear hR
    refine MixA.hop ⟨#[undef, undef, undef, undef, undef, (.slice (some ⟨g5, 0, none⟩) 9 9), undef, undef, undef, (.int .i64 k), undef], []⟩ (by intro cs b e; cases e) rfl (show 10 < 11 by decide) ?_ ?_
    · intro x hx
      simp [Op.operands] at hx
      rcases hx with rfl | rfl
      · exact hv5.trans rfl
      · exact hv9.trans rfl
    go_wp2_with fail
    first | exact ⟨below_size, g5, rfl, rfl⟩ | exact ⟨_, rfl, below_size, g5, rfl, rfl⟩
  · intro a1 w1 hf
    obtain ⟨R, hR, _⟩ := hf.facts
    obtain ⟨g5, hv5, _, _, h5⟩ : ∃ g', MixA.val a1 5 = .slice (some ⟨g', 0, none⟩) 9 9 ∧ (R 0).1 ≤ g' ∧ g' < (R 0).2 ∧ Blk w1 g' 9 namesA := (hR 0 (by decide)).1
    obtain ⟨g6, e10, hv10⟩ : ∃ g', MixA.val a1 5 = .slice (some ⟨g', 0, none⟩) 9 9 ∧ MixA.val a1 10 = .pointer (some ⟨g', k, none⟩) := (hR 5 (by decide)).1
    rw [hv5] at e10
    injection e10 with e10 _ _
    injection e10 with e10
    injection e10 with e10 _ _
    subst e10
    have hc : w1.cell? ⟨g5, k, none⟩ = some (.string (bs (nameL k))) := by rw [h5.cell k]; exact namesA_at hk1 hk8
    clear hR h5
    refine MixA.hop ⟨#[undef, undef, undef, undef, undef, undef, undef, undef, undef, undef, (.pointer (some ⟨g5, k, none⟩)), undef], []⟩ (by intro cs b e; cases e) rfl (show 11 < 12 by decide) ?_ ?_
    · intro x hx
      simp [Op.operands] at hx
      rcases hx with rfl
      · exact hv10.trans rfl
    go_wp2_with fail
    first | exact ⟨below_size, rfl⟩ | exact ⟨_, rfl, below_size, rfl⟩
  · intro a1 w1 hf
    refine MixA.hop ⟨#[undef, undef, undef, undef, undef, undef, undef, undef, undef, undef, undef, (.string (bs (nameL k))), undef], []⟩ (by intro cs b e; cases e) rfl (show 12 < 13 by decide) ?_ ?_
    · intro x hx
      simp [Op.operands] at hx
      rcases hx with rfl | rfl
      · exact (hf.pure (j := 6) (by decide) rfl).trans rfl
      · rfl
    go_wp2_with fail
    first | exact ⟨below_size, rfl⟩ | exact ⟨_, rfl, below_size, rfl⟩
  · intro a1 w1 hf
    refine MixA.hop ⟨#[(.pointer (some ⟨g, 0, none⟩)), undef, undef, undef, undef, undef, undef, undef, undef, undef, undef, undef, undef, undef], []⟩ (by intro cs b e; cases e) rfl (show 13 < 14 by decide) ?_ ?_
    · intro x hx
      simp [Op.operands] at hx
      rcases hx with rfl
      · exact (hf.was (t := 0) (by decide) rfl).trans rfl
    go_wp2_with fail
    first | exact ⟨below_size, rfl⟩ | exact ⟨_, rfl, below_size, rfl⟩
  · intro a1 w1 hf
    refine MixA.hop ⟨#[undef, undef, undef, undef, undef, undef, undef, undef, undef, undef, undef, undef, undef, (.pointer (some ⟨g, 0, none⟩)), undef], []⟩ (by intro cs b e; cases e) rfl (show 14 < 15 by decide) ?_ ?_
    · intro x hx
      simp [Op.operands] at hx
      rcases hx with rfl
      · exact (hf.pure (j := 8) (by decide) rfl).trans rfl
    go_wp2_with fail
    first | exact ⟨below_size, rfl⟩ | exact ⟨_, rfl, below_size, rfl⟩
  · intro a1 w1 hf
    refine MixA.hop ⟨#[undef, undef, undef, undef, undef, undef, undef, undef, undef, undef, undef, undef, undef, undef, (.pointer (some ⟨g, 0, none⟩)), undef], []⟩ (by intro cs b e; cases e) rfl (show 15 < 16 by decide) ?_ ?_
    · intro x hx
      simp [Op.operands] at hx
      rcases hx with rfl
      · exact (hf.pure (j := 9) (by decide) rfl).trans rfl
    go_wp2_with fail
    first | exact ⟨below_size, rfl⟩ | exact ⟨_, rfl, below_size, rfl⟩
  · intro a1 w1 hf
    have E1 := EW w1 hf.below
    have hc0 : w1.cell? ⟨g, 1, none⟩ = some (.slice A n c) := keepc E1 HP.out.c1
    clear E1
    refine MixA.hop ⟨#[undef, undef, undef, undef, undef, undef, undef, undef, undef, undef, undef, undef, undef, undef, undef, (.pointer (some ⟨g, 1, none⟩)), undef], []⟩ (by intro cs b e; cases e) rfl (show 16 < 17 by decide) ?_ ?_
    · intro x hx
      simp [Op.operands] at hx
      rcases hx with rfl
      · exact (hf.pure (j := 10) (by decide) rfl).trans rfl
    go_wp2_with fail
    first | exact ⟨below_size, rfl⟩ | exact ⟨_, rfl, below_size, rfl⟩
  · intro a1 w1 hf
    obtain ⟨R, hR, _⟩ := hf.facts
    have hv16 : MixA.val a1 16 = .slice A n c := (hR 11 (by decide)).1
    have E1 := EW w1 hf.below
    have HQ := Lib.hid (show RdI w1 A n xs from RdI.below HP.out.rd E1)
    clear hR E1
    refine MixA.hop ⟨#[undef, undef, undef, undef, undef, undef, undef, undef, undef, undef, undef, undef, undef, undef, undef, undef, (.slice A n c), undef], []⟩ (by intro cs b e; cases e) rfl (show 17 < 18 by decide) ?_ ?_
    · intro x hx
      simp [Op.operands, Call.operands] at hx
      rcases hx with rfl | rfl
      · rfl
      · exact hv16.trans rfl
    go_wp2_with fail
    refine (l01List_c A n c xs _ (by exact HQ.out) (by omega) HX.out).mono ?_
    rintro e w2 ⟨rfl, hb2⟩
    have B2 := Lib.hid hb2
    clear hb2
    go_wp2_with fail
    first | exact ⟨B2.out, rfl⟩ | exact ⟨_, rfl, B2.out, rfl⟩
  · intro a1 w1 hf
    refine MixA.hop ⟨#[undef, undef, undef, undef, undef, undef, undef, undef, undef, undef, undef, undef, (.string (bs (nameL k) ++ ⟨#[58]⟩)), undef, undef, undef, undef, (.string (bs (listT xs))), undef], []⟩ (by intro cs b e; cases e) rfl (show 18 < 19 by decide) ?_ ?_
    · intro x hx
      simp [Op.operands] at hx
      rcases hx with rfl | rfl
      · exact (hf.pure (j := 7) (by decide) rfl).trans rfl
      · exact (hf.pure (j := 12) (by decide) rfl).trans rfl
    go_wp2_with fail
    first | exact ⟨below_size, rfl⟩ | exact ⟨_, rfl, below_size, rfl⟩
  · intro a1 w1 hf
    refine MixA.hop ⟨#[undef, undef, undef, undef, undef, undef, undef, undef, undef, undef, undef, undef, undef, undef, undef, undef, undef, undef, (.string (bs (nameL k) ++ ⟨#[58]⟩ ++ bs (listT xs))), undef], []⟩ (by intro cs b e; cases e) rfl (show 19 < 20 by decide) ?_ ?_
    · intro x hx
      simp [Op.operands] at hx
      rcases hx with rfl | rfl
      · exact (hf.pure (j := 13) (by decide) rfl).trans rfl
      · rfl
    go_wp2_with fail
    first | exact ⟨below_size, rfl⟩ | exact ⟨_, rfl, below_size, rfl⟩
  · intro a1 w1 hf
    have hv19 : MixA.val a1 19 = .string (bs (nameL k) ++ ⟨#[58]⟩ ++ bs (listT xs) ++ ⟨#[58]⟩) := hf.pure (j := 14) (by decide) rfl
    have E1 := Lib.hid (below_of_drew hf.below)
    rw [hf.act]
    have HPF := Lib.hid (show bs (nameL k) ++ ⟨#[58]⟩ ++ bs (listT xs) ++ ⟨#[58]⟩ = bs (preT k xs) by rw [show (⟨#[58]⟩ : ByteArray) = bs [58] from rfl]; simp only [bs_add, preT])
    rw [HPF.out] at hv19
    clear EW HPF l1 l2
    simp only [List.foldl_cons, List.foldl_nil, hv19]
    clear hv19 hf
    simp only [Act.put, List.setIfInBounds_toArray, List.set_cons_succ, List.set_cons_zero]
    obtain ⟨PX, hPX⟩ : ∃ PX, preT k xs = PX := ⟨_, rfl⟩
    have HPX := Lib.hid hPX
    have hpl : PX.length ≤ 30000 := by rw [← hPX]; exact preT_len k HX.out (by rw [HP.out.rd.len]; omega)
    rw [hPX]
    clear hPX
    have HP1 := Lib.hid (show ProofP w1 g k A n c xs A' n' c' its from HP.out.below E1.out)
    clear HP
    go_wp2_with fail
    go_loopw [3, 4] (fun ov iv wr => ∃ i : Nat, iv = .int .i64 i ∧ ov = .string (bs (PX ++ Lib.join (((its.map It.xs).map wordT).take i) [44])) ∧ i ≤ n' ∧ Below w1.heap.size w1 wr) (fun _ iv _ => n' - (intOf iv).toNat)
    case atStart => exact ⟨0, rfl, by rw [List.take_zero, Lib.join_nil, List.append_nil], by omega, below_size⟩
    case round =>
      obtain ⟨i, rfl, rfl, hi, hb⟩ := hrel
      have HB := Lib.hid hb
      have HP2 := Lib.hid (HP1.out.below hb)
      have p2 := HP2.out.c2
      by_cases hlt : i < n'
      · obtain ⟨ad, t, rfl, hab, ht, hct, hrt⟩ := RdII.at_ HP2.out.rd' hlt
        have htw := HW.out t (List.mem_of_getElem? ht)
        have htl : t.n ≤ 400 := by have h1 := hrt.head.1; simp [sgI] at h1; omega
        have HRT := Lib.hid (show RdI wr t.A t.n t.xs from hrt.head)
        have HTW := Lib.hid htw
        have HJ := Lib.hid (join_at [44] ((its.map It.xs).map wordT) i (wordT t.xs) (by rw [List.getElem?_map, List.getElem?_map, ht]; rfl))
        obtain ⟨J, hJ⟩ : ∃ J, Lib.join (((its.map It.xs).map wordT).take i) [44] = J := ⟨_, rfl⟩
        have hs1 : (bs (PX ++ J)).size ≤ 1000000 := by
          rw [bs_size, List.length_append, ← hJ]
          have h1 := words_len (xss := its.map It.xs) (fun x hx => by obtain ⟨u, hu, rfl⟩ := List.mem_map.1 hx; exact (HW.out u hu).1) i
          omega
        have hs2 : (bs (wordT t.xs)).size ≤ 401 := by rw [bs_size]; have := wordT_len t.xs; omega
        rw [hJ] at HJ ⊢
        have HJ1 := Lib.hid (show ¬ 0 < i → J = [] from fun h => by rw [← hJ, show i = 0 by omega]; rfl)
        clear ht hrt htw hb hJ hpl
        by_cases hk0 : 0 < i
        · have HE := Lib.hid (show bs (PX ++ J) ++ ⟨#[44]⟩ ++ bs (wordT t.xs) = bs (PX ++ Lib.join (((its.map It.xs).map wordT).take (i + 1)) [44]) by rw [HJ.out, if_pos hk0, show (⟨#[44]⟩ : ByteArray) = bs [44] from rfl, bs_add, bs_add]; simp)
          go_wp2_with (go_at_call 92; refine (l03Text_c t.A t.n t.c t.xs _ (by exact HRT.out) (by omega) HTW.out.2).mono ?_; rintro e w2 ⟨rfl, hb2⟩)
          have B2 := Lib.hid (HB.out.trans (hb2.mono HB.out.size)); clear hb2
          rw [HE.out]
          go_roundw
          case rel => exact ⟨i + 1, by go_num, rfl, by omega, B2.out⟩
          case measure => simp [intOf]; omega
        · have HE := Lib.hid (show bs (PX ++ J) ++ bs (wordT t.xs) = bs (PX ++ Lib.join (((its.map It.xs).map wordT).take (i + 1)) [44]) by rw [HJ.out, if_neg hk0, bs_add, HJ1.out hk0]; simp)
          go_wp2_with (go_at_call 92; refine (l03Text_c t.A t.n t.c t.xs _ (by exact HRT.out) (by omega) HTW.out.2).mono ?_; rintro e w2 ⟨rfl, hb2⟩)
          have B2 := Lib.hid (HB.out.trans (hb2.mono HB.out.size)); clear hb2
          rw [HE.out]
          go_roundw
          case rel => exact ⟨i + 1, by go_num, rfl, by omega, B2.out⟩
          case measure => simp [intOf]; omega
      · obtain rfl : i = n' := by omega
        have HR := Lib.hid (show PX ++ Lib.join (((its.map It.xs).map wordT).take i) [44] = prText k xs (its.map It.xs) by
          rw [List.take_of_length_le (by simp [RdII.len HP2.out.rd']), ← HPX.out]; rfl)
        clear hb hpl
        go_wp2_with fail
        go_ret
        exact ⟨by rw [HR.out]; rfl, below_chain E1.out E1.out.size HB.out⟩
  -- behind the region
theorem prR_no {kd : Int} {xs : List Int} {xss : List (List Int)} (h : proofB kd xs xss = false) : prR kd xs xss = [] := by rw [prR, h]; rfl
theorem proofB_bd {kd : Int} {xs : List Int} {its : List It} (h : proofB kd xs (its.map It.xs) = true) : (1 ≤ kd ∧ kd ≤ 8) ∧ xs.length ≤ 300 ∧ its.length ≤ 300 ∧ i64s xs ∧ ∀ t ∈ its, t.xs.length ≤ 400 ∧ dgs t.xs := by
  simp only [proofB, Bool.and_eq_true, decide_eq_true_eq, List.length_map] at h
  refine ⟨inB_t h.1.1.1.1, by omega, by omega, fun x hx => ?_, fun t ht => ?_⟩
  · have := allB_mem h.1.2 x hx; omega
  · have h1 := List.all_eq_true.1 h.2 t.xs (List.mem_map_of_mem ht)
    simp only [wordB, Bool.and_eq_true, decide_eq_true_eq] at h1
    exact ⟨by omega, fun x hx => allB_mem h1.2 x hx⟩
set_option maxHeartbeats 2000000 in
set_option maxRecDepth 100000 in
theorem sProofText_c (kd : Int) (A : Option Addr) (n cp : Nat) (xs : List Int) (A' : Option Addr) (n' cp' : Nat) (its : List It) (w : World) (h : RdS w ([sgI A n xs] ++ sgII A' n' its)) (hn : n ≤ 1000000000 ∧ n' ≤ 1000000000) (hi : ∀ t ∈ its, t.n ≤ 1000000000) :
    Calls Tryd.prog 22 #[.agg #[.int .i64 kd, .slice A n cp, .slice A' n' cp']] w fun e w' => e = .returned (.string (bs (prR kd xs (its.map It.xs)))) ∧ Below w.heap.size w w' := by
  have H := Lib.hid h; clear h
  cases hq : proofB kd xs (its.map It.xs)
  · have HR := Lib.hid (prR_no hq)
    go_enter Tryd.func22, Tryd.ntmps22
    go_wp2_with fail
    refine (l25Is_c w.heap.size kd A n cp xs A' n' cp' its false _ ⟨by simp, by simp, by simp, by exact Rd.alloc H.out.left.head _, by exact H.out.right.alloc _⟩ hn.1 hn.2 hi hq).mono ?_
    rintro e w' ⟨rfl, rfl⟩
    clear hq
    go_wp2_with fail
    go_ret
    exact ⟨by rw [HR.out]; rfl, below_size.alloc (Nat.le_refl _) _⟩
  · have hbd := proofB_bd hq
    have hl1 : xs.length = n := RdI.len H.out.left.head
    have hl2 : its.length = n' := RdII.len H.out.right
    have HBD := Lib.hid hbd
    have HR := Lib.hid (show prR kd xs (its.map It.xs) = prText kd.toNat xs (its.map It.xs) by rw [prR, if_pos hq])
    have hn1 : n ≤ 1000 := by omega
    have hn2 : n' ≤ 1000 := by omega
    obtain ⟨k, rfl⟩ : ∃ k : Nat, kd = k := ⟨kd.toNat, by omega⟩
    have hk1 : 1 ≤ k := by omega
    have hk8 : k ≤ 8 := by omega
    have HP := Lib.hid (show ProofP (w.alloc (.cells #[.int .i64 k, .slice A n cp, .slice A' n' cp'] 53)) w.heap.size k A n cp xs A' n' cp' its from ⟨by simp, by simp, by simp, by exact Rd.alloc H.out.left.head _, by exact H.out.right.alloc _⟩)
    clear hbd hl1 hl2
    go_enter Tryd.func22, Tryd.ntmps22
    go_wp2_with fail
    refine (l25Is_c w.heap.size k A n cp xs A' n' cp' its true _ HP.out hn.1 hn.2 hi hq).mono ?_
    rintro e w' ⟨rfl, rfl⟩
    clear hq
    go_wp2_with fail
    refine (l25Text_c w.heap.size k A n cp xs A' n' cp' its _ HP.out hk1 hk8 hn1 hn2 HBD.out.2.2.2.1 HBD.out.2.2.2.2).mono ?_
    rintro e w1 ⟨rfl, hb⟩
    have B1 := Lib.hid ((below_size.alloc (Nat.le_refl _) _).trans (hb.mono (by simp))); clear hb
    go_wp2_with fail
    go_ret
    exact ⟨by rw [HR.out]; rfl, B1.out⟩
set_option maxHeartbeats 1000000 in
theorem ProofName_v (k : Nat) (w : World) (hk1 : 1 ≤ k) (hk8 : k ≤ 8) : Calls Tryd.prog 59 #[.int .i64 k] w fun e w' => e = .returned (.string (bs (nameL k))) ∧ Below w.heap.size w w' := by
  have h8 : k = 1 ∨ k = 2 ∨ k = 3 ∨ k = 4 ∨ k = 5 ∨ k = 6 ∨ k = 7 ∨ k = 8 := by omega
  clear hk1 hk8
  rcases h8 with rfl | rfl | rfl | rfl | rfl | rfl | rfl | rfl
  all_goals
    go_enter Tryd.func59, Tryd.ntmps59
    go_wp2_with (first | (go_at_call 78; refine (within_c _ _ _ _).mono ?_; rintro e w' ⟨rfl, rfl⟩) | go_in)
    go_ret
    exact ⟨rfl, below_size.alloc (Nat.le_refl _) _⟩
set_option maxHeartbeats 2000000 in
set_option maxRecDepth 100000 in
theorem iProofText_c (kd : Int) (A : Option Addr) (n cp : Nat) (xs : List Int) (A' : Option Addr) (n' cp' : Nat) (its : List It) (w : World) (h : RdS w ([sgI A n xs] ++ sgII A' n' its)) (hn : n ≤ 1000000000 ∧ n' ≤ 1000000000) (hi : ∀ t ∈ its, t.n ≤ 1000000000) (ht : Tab w) :
    Calls Tryd.prog 24 #[.agg #[.int .i64 kd, .slice A n cp, .slice A' n' cp']] w fun e w' => e = .returned (.string (bs (prR kd xs (its.map It.xs)))) ∧ Below w.heap.size w w' := by
  have H := Lib.hid h; clear h
  have HT := Lib.hid ht; clear ht
  cases hq : proofB kd xs (its.map It.xs)
  · have HR := Lib.hid (prR_no hq)
    go_enter Tryd.func24, Tryd.ntmps24
    go_wp2_with fail
    refine (iValidProof_c kd A n cp xs A' n' cp' its _ (by exact H.out.alloc _) hn hi).mono ?_
    rw [hq]
    rintro e w1 ⟨rfl, hb⟩
    have B1 := Lib.hid (up1 hb); clear hb
    clear hq
    go_wp2_with fail
    go_ret
    exact ⟨by rw [HR.out]; rfl, B1.out⟩
  · have hbd := proofB_bd hq
    have hl1 : xs.length = n := RdI.len H.out.left.head
    have hl2 : its.length = n' := RdII.len H.out.right
    have HBD := Lib.hid hbd
    have HR := Lib.hid (show prR kd xs (its.map It.xs) = prText kd.toNat xs (its.map It.xs) by rw [prR, if_pos hq])
    have hn1 : n ≤ 300 := by omega
    have hn2 : n' ≤ 300 := by omega
    obtain ⟨k, rfl⟩ : ∃ k : Nat, kd = k := ⟨kd.toNat, by omega⟩
    have hk1 : 1 ≤ k := by omega
    have hk8 : k ≤ 8 := by omega
    have HL1 := Lib.hid hl1
    clear hbd hl1 hl2
    go_enter Tryd.func24, Tryd.ntmps24
    go_wp2_with fail
    refine (iValidProof_c k A n cp xs A' n' cp' its _ (by exact H.out.alloc _) hn hi).mono ?_
    rw [hq]
    rintro e w1 ⟨rfl, hb⟩
    have q0 : w1.cell? ⟨w.heap.size, 0, none⟩ = some (i64 k) := keepc hb (by simp)
    have q1 : w1.cell? ⟨w.heap.size, 1, none⟩ = some (.slice A n cp) := keepc hb (by simp)
    have q2 : w1.cell? ⟨w.heap.size, 2, none⟩ = some (.slice A' n' cp') := keepc hb (by simp)
    have Q0 := Lib.hid q0; have Q1 := Lib.hid q1; have Q2 := Lib.hid q2
    have B1 := Lib.hid (up1 hb); clear hb
    clear hq q0 q1 q2
    by_cases h0 : n = 0
    · have g0 : decide (0 < n) = false := by rw [decide_eq_false_iff_not]; omega
      have HN := Lib.hid (show listT xs = [45] by rw [listT, if_pos (List.length_eq_zero_iff.1 (HL1.out.trans h0))])
      have q1 := fun o => keepa o Q1.out
      have q2 := fun o => keepa o Q2.out
      clear h0
      go_wp2_with fail
      obtain ⟨wz, hwz⟩ : ∃ wz, w1.alloc (.cells #[] 9) = wz := ⟨_, rfl⟩
      have BZ := Lib.hid (show Below w1.heap.size w1 wz by rw [← hwz]; exact below_size.alloc (Nat.le_refl _) _)
      have OZ := Lib.hid (show Own wz w1.heap.size 9 1 (some ⟨w1.heap.size, 0, none⟩) 0 0 [] by rw [← hwz]; exact Own.lit (Nat.le_refl _))
      rw [show (ByteArray.mk #[45]) = bs (listT xs) by rw [HN.out]; rfl]
      first | rw [hwz] | skip
      clear hwz q1 q2 HN
      have lx : (bs (listT xs)).size ≤ 30000 := by rw [bs_size]; have h1 := listT_len HBD.out.2.2.2.1; have h2 := HL1.out; omega
      have ln : (bs (nameL k)).size ≤ 9 := by rw [bs_size]; exact nameL_len k
      have HIT := Lib.hid (show RdS w1 (sgII A' n' its) from H.out.right.below B1.out)
      go_loopw [4, 21] (fun v iv wr => ∃ (i : Nat) (C : Option Addr) (cc : Nat), iv = .int .i64 i ∧ v = .slice C i cc ∧ i ≤ n' ∧ Own wr w1.heap.size 9 1 C i cc ((((its.map It.xs).map wordT).take i).map fun l => .string (bs l)) ∧ Below w1.heap.size w1 wr) (fun _ iv _ => n' - (intOf iv).toNat)
      case atStart => exact ⟨0, _, _, rfl, rfl, by omega, OZ.out, BZ.out⟩
      case round =>
        obtain ⟨i, C, cc, rfl, rfl, hi, own, hb⟩ := hrel
        have HO := Lib.hid own; have HB := Lib.hid hb
        have hbs := hb.size
        by_cases hlt : i < n'
        · obtain ⟨ad, t, rfl, hab, ht, hct, hrt⟩ := RdII.at_ (HIT.out.below hb) hlt
          have htw := HBD.out.2.2.2.2 t (List.mem_of_getElem? ht)
          have htl : t.n ≤ 400 := by have h1 := hrt.head.1; simp [sgI] at h1; omega
          have HRT := Lib.hid (show RdI wr t.A t.n t.xs from hrt.head)
          have HTW := Lib.hid htw
          have HE := Lib.hid (show (((its.map It.xs).map wordT).take (i + 1)).map (fun l => Value.string (bs l)) = (((its.map It.xs).map wordT).take i).map (fun l => Value.string (bs l)) ++ [.string (bs (wordT t.xs))] by rw [List.take_add_one, List.getElem?_map, List.getElem?_map, ht]; simp)
          clear ht hrt htw hb own
          go_wp2_with (first
            | (go_at_call 58; refine (wordText_c t.A t.n t.c t.xs _ (by exact HRT.out) (by omega) HTW.out.2).mono ?_; rintro e w2 ⟨rfl, hb2⟩; have B2 := Lib.hid (HB.out.trans (hb2.mono HB.out.size)); have O2 := Lib.hid (HO.out.keep hb2); have z2 := hb2.size; clear hb2 HO HB)
            | (at_builtin; refine wp_app1 (by rfl) _ _ 78 9 (.string ⟨#[]⟩) 16 (by rfl) Tryd.underlying78 info_str rfl w1.heap.size C i cc ((((its.map It.xs).map wordT).take i).map fun l => .string (bs l)) (by rfl) (by exact O2.out.alloc _) w2.heap.size (.string (bs (wordT t.xs))) (by rfl) (by exact new_cell _ _ _ 0) rfl (by omega) (by omega) (by simp; omega) ?_; intro g' cap w3 own3 hb3 hk3 hg3 hz3))
          have O3 := Lib.hid own3; have HB3 := Lib.hid hb3
          clear own3 hb3 hk3 hg3 hz3
          go_wp2_with fail
          go_roundw
          case rel => exact ⟨i + 1, some ⟨g', 0, none⟩, cap, by go_num, rfl, by omega, by rw [HE.out]; exact O3.out, (B2.out.alloc B2.out.size _).trans HB3.out⟩
          case measure => simp [intOf]; omega
        · obtain rfl : i = n' := by omega
          have hil := RdII.len HIT.out
          have HF := Lib.hid (show ((its.map It.xs).map wordT).take i = (its.map It.xs).map wordT from List.take_of_length_le (by simp [hil]))
          have hjl : (Lib.join ((its.map It.xs).map wordT) [44]).length ≤ 1000000 := by
            have h1 := words_len (xss := its.map It.xs) (fun x hx => by obtain ⟨u, hu, rfl⟩ := List.mem_map.1 hx; exact (HBD.out.2.2.2.2 u hu).1) i
            rw [HF.out] at h1; omega
          obtain ⟨JT, hJT⟩ : ∃ JT, Lib.join ((its.map It.xs).map wordT) [44] = JT := ⟨_, rfl⟩
          have HJT := Lib.hid hJT
          have hjs : (bs JT).size ≤ 1000000 := by rw [bs_size, ← hJT]; exact hjl
          clear hJT
          have r0 := keepc hb Q0.out
          clear hb own
          go_wp2_with (first
            | (go_at_call 59; refine (ProofName_v k _ hk1 hk8).mono ?_; rintro e w2 ⟨rfl, hb2⟩; have B2 := Lib.hid (HB.out.trans (hb2.mono HB.out.size)); have O2 := Lib.hid (HO.out.keep hb2); clear hb2 HO HB)
            | (go_at_call 43; refine (Join_c C i cc w1.heap.size ((its.map It.xs).map wordT) [44] _ (by have := O2.out; rw [HF.out] at this; exact this) (by omega) (by omega)).mono ?_; rw [HJT.out]; rintro e w3 ⟨rfl, hb3⟩; have B3 := Lib.hid (B2.out.trans (hb3.mono B2.out.size)); clear hb3))
          go_ret
          have HPT := Lib.hid (show bs (nameL k) ++ ⟨#[58]⟩ ++ bs (listT xs) ++ ⟨#[58]⟩ ++ bs JT = bs (prText k xs (its.map It.xs)) by rw [← HJT.out, show (⟨#[58]⟩ : ByteArray) = bs [58] from rfl]; simp only [bs_add, prText])
          exact ⟨by rw [HR.out]; show _ = Ending.returned (.string (bs (prText k xs (its.map It.xs)))); rw [← HPT.out]; rfl, B1.out.trans (B3.out.mono B1.out.size)⟩
    · have g0 : decide (0 < n) = true := by rw [decide_eq_true_eq]; omega
      have HN := Lib.hid (show Lib.join (xs.map Lib.itoa) [44] = listT xs by rw [listT, if_neg (fun h => h0 (by rw [← HL1.out, h]; rfl))])
      have q1 := fun o => keepa o Q1.out
      have q2 := fun o => keepa o Q2.out
      have HXS := Lib.hid (show RdI w1 A n xs from RdI.below H.out.left.head B1.out)
      clear h0
      go_wp2_with (go_at_call 42; refine (decimals_c A n cp xs 44 _ (by exact RdI.alloc HXS.out _) (by omega) HBD.out.2.2.2.1 (by exact (HT.out.below B1.out).alloc _)).mono ?_; rintro e wz ⟨rfl, hbz⟩; have r2 := keepc hbz (q2 _))
      have BZ := Lib.hid (show Below w1.heap.size w1 wz from (below_size.alloc (Nat.le_refl _) _).trans (hbz.mono (by simp)))
      have OZ := Lib.hid (show Own wz w1.heap.size 9 1 (some ⟨w1.heap.size, 0, none⟩) 0 0 [] from (Own.lit (Nat.le_refl _)).keep hbz)
      rw [HN.out]
      clear hbz q1 q2 r2 HN HXS
      have lx : (bs (listT xs)).size ≤ 30000 := by rw [bs_size]; have h1 := listT_len HBD.out.2.2.2.1; have h2 := HL1.out; omega
      have ln : (bs (nameL k)).size ≤ 9 := by rw [bs_size]; exact nameL_len k
      have HIT := Lib.hid (show RdS w1 (sgII A' n' its) from H.out.right.below B1.out)
      go_loopw [4, 21] (fun v iv wr => ∃ (i : Nat) (C : Option Addr) (cc : Nat), iv = .int .i64 i ∧ v = .slice C i cc ∧ i ≤ n' ∧ Own wr w1.heap.size 9 1 C i cc ((((its.map It.xs).map wordT).take i).map fun l => .string (bs l)) ∧ Below w1.heap.size w1 wr) (fun _ iv _ => n' - (intOf iv).toNat)
      case atStart => exact ⟨0, _, _, rfl, rfl, by omega, OZ.out, BZ.out⟩
      case round =>
        obtain ⟨i, C, cc, rfl, rfl, hi, own, hb⟩ := hrel
        have HO := Lib.hid own; have HB := Lib.hid hb
        have hbs := hb.size
        by_cases hlt : i < n'
        · obtain ⟨ad, t, rfl, hab, ht, hct, hrt⟩ := RdII.at_ (HIT.out.below hb) hlt
          have htw := HBD.out.2.2.2.2 t (List.mem_of_getElem? ht)
          have htl : t.n ≤ 400 := by have h1 := hrt.head.1; simp [sgI] at h1; omega
          have HRT := Lib.hid (show RdI wr t.A t.n t.xs from hrt.head)
          have HTW := Lib.hid htw
          have HE := Lib.hid (show (((its.map It.xs).map wordT).take (i + 1)).map (fun l => Value.string (bs l)) = (((its.map It.xs).map wordT).take i).map (fun l => Value.string (bs l)) ++ [.string (bs (wordT t.xs))] by rw [List.take_add_one, List.getElem?_map, List.getElem?_map, ht]; simp)
          clear ht hrt htw hb own
          go_wp2_with (first
            | (go_at_call 58; refine (wordText_c t.A t.n t.c t.xs _ (by exact HRT.out) (by omega) HTW.out.2).mono ?_; rintro e w2 ⟨rfl, hb2⟩; have B2 := Lib.hid (HB.out.trans (hb2.mono HB.out.size)); have O2 := Lib.hid (HO.out.keep hb2); have z2 := hb2.size; clear hb2 HO HB)
            | (at_builtin; refine wp_app1 (by rfl) _ _ 78 9 (.string ⟨#[]⟩) 16 (by rfl) Tryd.underlying78 info_str rfl w1.heap.size C i cc ((((its.map It.xs).map wordT).take i).map fun l => .string (bs l)) (by rfl) (by exact O2.out.alloc _) w2.heap.size (.string (bs (wordT t.xs))) (by rfl) (by exact new_cell _ _ _ 0) rfl (by omega) (by omega) (by simp; omega) ?_; intro g' cap w3 own3 hb3 hk3 hg3 hz3))
          have O3 := Lib.hid own3; have HB3 := Lib.hid hb3
          clear own3 hb3 hk3 hg3 hz3
          go_wp2_with fail
          go_roundw
          case rel => exact ⟨i + 1, some ⟨g', 0, none⟩, cap, by go_num, rfl, by omega, by rw [HE.out]; exact O3.out, (B2.out.alloc B2.out.size _).trans HB3.out⟩
          case measure => simp [intOf]; omega
        · obtain rfl : i = n' := by omega
          have hil := RdII.len HIT.out
          have HF := Lib.hid (show ((its.map It.xs).map wordT).take i = (its.map It.xs).map wordT from List.take_of_length_le (by simp [hil]))
          have hjl : (Lib.join ((its.map It.xs).map wordT) [44]).length ≤ 1000000 := by
            have h1 := words_len (xss := its.map It.xs) (fun x hx => by obtain ⟨u, hu, rfl⟩ := List.mem_map.1 hx; exact (HBD.out.2.2.2.2 u hu).1) i
            rw [HF.out] at h1; omega
          obtain ⟨JT, hJT⟩ : ∃ JT, Lib.join ((its.map It.xs).map wordT) [44] = JT := ⟨_, rfl⟩
          have HJT := Lib.hid hJT
          have hjs : (bs JT).size ≤ 1000000 := by rw [bs_size, ← hJT]; exact hjl
          clear hJT
          have r0 := keepc hb Q0.out
          clear hb own
          go_wp2_with (first
            | (go_at_call 59; refine (ProofName_v k _ hk1 hk8).mono ?_; rintro e w2 ⟨rfl, hb2⟩; have B2 := Lib.hid (HB.out.trans (hb2.mono HB.out.size)); have O2 := Lib.hid (HO.out.keep hb2); clear hb2 HO HB)
            | (go_at_call 43; refine (Join_c C i cc w1.heap.size ((its.map It.xs).map wordT) [44] _ (by have := O2.out; rw [HF.out] at this; exact this) (by omega) (by omega)).mono ?_; rw [HJT.out]; rintro e w3 ⟨rfl, hb3⟩; have B3 := Lib.hid (B2.out.trans (hb3.mono B2.out.size)); clear hb3))
          go_ret
          have HPT := Lib.hid (show bs (nameL k) ++ ⟨#[58]⟩ ++ bs (listT xs) ++ ⟨#[58]⟩ ++ bs JT = bs (prText k xs (its.map It.xs)) by rw [← HJT.out, show (⟨#[58]⟩ : ByteArray) = bs [58] from rfl]; simp only [bs_add, prText])
          exact ⟨by rw [HR.out]; show _ = Ending.returned (.string (bs (prText k xs (its.map It.xs)))); rw [← HPT.out]; rfl, B1.out.trans (B3.out.mono B1.out.size)⟩
end Go.Proofs.YtfbmjlohdhogmaaDoor
