/-
  Parts of the proof, one behind the other: contracts of the functions that the law reaches, and plain laws.
-/
import Derived.Test.YtebjpmmgdkepjaaGreatDoorProg
import Derived.WalkKit
import Derived.WalkLawsBesides
import Derived.WalkSpells
import Derived.Deep.QuietTactic
import Derived.BigQuiet
import Derived.Test.YtebjpmmgdkepjaaGreatDoorLot01
import Derived.Test.YtebjpmmgdkepjaaGreatDoorLot02
/-
  Contracts of the small functions on numbers and lists: within, l00In, size, allWithin.
-/
namespace Go.Proofs.YtebjpmmgdkepjaaGreatDoor
open Go.RowKit

theorem info_i64 : (Tryz.prog.info? 2).map (fun i => (i.zero, i.size, i.bytes)) = some (some (.int .i64 0), 1, 8) := by kernel_rfl

def inB (n lo hi : Int) : Bool := decide (lo ≤ n) && decide (n ≤ hi)
theorem inB_t {n lo hi : Int} (h : inB n lo hi = true) : lo ≤ n ∧ n ≤ hi := by simpa [inB] using h
theorem inB_f {n lo hi : Int} (h : inB n lo hi = false) : n < lo ∨ hi < n := by
  simp [inB] at h
  by_cases h1 : lo ≤ n
  · exact .inr (h h1)
  · exact .inl (by omega)
theorem inB_of {n lo hi : Int} (h1 : lo ≤ n) (h2 : n ≤ hi) : inB n lo hi = true := by simp [inB, h1, h2]
theorem inB_not {n lo hi : Int} (h : ¬ (lo ≤ n ∧ n ≤ hi)) : inB n lo hi = false := by
  cases hb : inB n lo hi
  · rfl
  · exact absurd (inB_t hb) h

def allB (lo hi : Int) : List Int → Bool
  | [] => true
  | x :: xs => inB x lo hi && allB lo hi xs
theorem allB_mem {lo hi : Int} : ∀ {xs : List Int}, allB lo hi xs = true → ∀ x ∈ xs, lo ≤ x ∧ x ≤ hi
  | [], _, x, hx => by cases hx
  | y :: ys, h, x, hx => by
    simp only [allB, Bool.and_eq_true] at h
    rcases List.mem_cons.1 hx with rfl | hx
    · exact inB_t h.1
    · exact allB_mem h.2 x hx

theorem within_c (n lo hi : Int) (w : World) :
    Calls Tryz.prog 24 #[.int .i64 n, .int .i64 lo, .int .i64 hi] w fun e w' => e = .returned (.bool (inB n lo hi)) ∧ w = w' := by
  by_cases h : lo ≤ n <;> by_cases h' : n ≤ hi <;> simp only [inB, h, h', decide_true, decide_false, Bool.and_self, Bool.and_true, Bool.and_false]
  all_goals
    first | have h1 : decide (lo ≤ n) = true := by simpa using h
          | have h1 : decide (lo ≤ n) = false := by simpa using h
    first | have h2 : decide (n ≤ hi) = true := by simpa using h'
          | have h2 : decide (n ≤ hi) = false := by simpa using h'
    go_enter Tryz.func24, Tryz.ntmps24
    go_wp2
    go_ret
    exact ⟨rfl, rfl⟩
theorem within_b (n lo hi : Int) (b : Bool) (hb : inB n lo hi = b) (w : World) :
    Calls Tryz.prog 24 #[.int .i64 n, .int .i64 lo, .int .i64 hi] w fun e w' => e = .returned (.bool b) ∧ w = w' := by subst hb; exact within_c n lo hi w
theorem l00In_c (n lo hi : Int) (w : World) :
    Calls Tryz.prog 75 #[.int .i64 n, .int .i64 lo, .int .i64 hi] w fun e w' => e = .returned (.bool (inB n lo hi)) ∧ w = w' := by
  by_cases h : lo ≤ n <;> by_cases h' : n ≤ hi <;> simp only [inB, h, h', decide_true, decide_false, Bool.and_self, Bool.and_true, Bool.and_false]
  all_goals
    first | have h1 : decide (lo ≤ n) = true := by simpa using h
          | have h1 : decide (lo ≤ n) = false := by simpa using h
    first | have h2 : decide (n ≤ hi) = true := by simpa using h'
          | have h2 : decide (n ≤ hi) = false := by simpa using h'
    go_enter Tryz.func75, Tryz.ntmps75
    go_wp2
    go_ret
    exact ⟨rfl, rfl⟩
theorem l00In_b (n lo hi : Int) (b : Bool) (hb : inB n lo hi = b) (w : World) :
    Calls Tryz.prog 75 #[.int .i64 n, .int .i64 lo, .int .i64 hi] w fun e w' => e = .returned (.bool b) ∧ w = w' := by subst hb; exact l00In_c n lo hi w
theorem sizeI_c (A : Option Addr) (n c : Nat) (w : World) (_hn : n ≤ 1000000000000) :
    Calls Tryz.prog 84 #[.slice A n c] w fun e w' => e = .returned (.int .i64 n) ∧ w = w' := by
  go_enter Tryz.func84, Tryz.ntmps84
  go_wp2
  go_ret
  exact ⟨rfl, rfl⟩
theorem allWithin_c (A : Option Addr) (n c : Nat) (xs : List Int) (lo hi : Int) (w : World) (h : RdI w A n xs) (hn : n ≤ 1000000000000) :
    Calls Tryz.prog 85 #[.slice A n c, .int .i64 lo, .int .i64 hi] w fun e w' => e = .returned (.bool (allB lo hi xs)) ∧ w = w' := by
  have HL := Lib.hid h.len
  have H := Lib.hid h; clear h
  go_enter Tryz.func85, Tryz.ntmps85
  go_wp2
  go_loop [11] (fun i => ∃ k : Nat, k ≤ n ∧ i = .int .i64 k ∧ Hid (allB lo hi xs = allB lo hi (xs.drop k))) (fun i => n - (intOf i).toNat)
  case atStart => exact ⟨0, by omega, rfl, rfl⟩
  case round =>
    obtain ⟨k, hk, rfl, hr⟩ := hrel
    by_cases hlt : k < n
    · obtain ⟨ad, x, rfl, hb, hx, hc⟩ := H.out.at_ hlt
      have Hx := Lib.hid hx; clear hx
      cases hin : inB x lo hi
      · go_wp2_with (go_at_call 24; refine (within_c _ _ _ _).mono ?_; rintro e w' ⟨rfl, rfl⟩)
        go_ret
        refine ⟨?_, rfl⟩
        rw [hr.out, drop_at Hx.out, allB, hin]; rfl
      · go_wp2_with (go_at_call 24; refine (within_c _ _ _ _).mono ?_; rintro e w' ⟨rfl, rfl⟩)
        go_round
        case rel => exact ⟨k + 1, by omega, by go_num, by rw [hr.out, drop_at Hx.out, allB, hin]; rfl⟩
        case measure => simp [intOf]; omega
    · go_wp2
      go_ret
      exact ⟨by rw [hr.out, List.drop_eq_nil_of_le (by rw [HL.out]; omega)]; rfl, rfl⟩
theorem allWithin_b (A : Option Addr) (n c : Nat) (xs : List Int) (lo hi : Int) (b : Bool) (hb : allB lo hi xs = b) (w : World) (h : RdI w A n xs) (hn : n ≤ 1000000000000) :
    Calls Tryz.prog 85 #[.slice A n c, .int .i64 lo, .int .i64 hi] w fun e w' => e = .returned (.bool b) ∧ w = w' := by subst hb; exact allWithin_c A n c xs lo hi w h hn
end Go.Proofs.YtebjpmmgdkepjaaGreatDoor
/-
  The helpers of the laws at []int64: copy, compare, mark, look at the marks, count. For every slice within 2^40 elements.
-/
namespace Go.Proofs.YtebjpmmgdkepjaaGreatDoor
open Go.RowKit



def szOf (left : Int) (n : Nat) : Int := if left - n < 0 then -1 else left - n
theorem szOf_neg' {left : Int} {n : Nat} (h : left < (n : Int)) : szOf left n = -1 := by unfold szOf; rw [if_pos (by omega)]
theorem szOf_pos' {left : Int} {n : Nat} (h : (n : Int) ≤ left) : szOf left n = left - n := by unfold szOf; rw [if_neg (by omega)]
theorem toInt64S_c (A : Option Addr) (n c : Nat) (xs : List Int) (w : World) (h : RdI w A n xs) (hn : n ≤ 1000000000000) :
    Calls Tryz.prog 18 #[.slice A n c] w fun e w' => e = .returned (.slice (some ⟨w.heap.size, 0, none⟩) n n) ∧ Wr w' w.heap.size w'.heap.size (some ⟨w.heap.size, 0, none⟩) n (xs.map i64) ∧ Below w.heap.size w w' := by
  have HL := Lib.hid h.len
  have H := Lib.hid h; clear h
  have hmk := run_mk (P := Tryz.prog) 29 2 (.int .i64 0) 8 Tryz.underlying29 info_i64 rfl .i64 .i64 n n (Nat.le_refl _) (by omega) (by omega)
  go_enter Tryz.func18, Tryz.ntmps18
  go_wp2
  clear hmk
  go_loopw [4] (fun i wr => ∃ k : Nat, k ≤ n ∧ i = .int .i64 k ∧ Blk wr w.heap.size 2 (fillV (xs.map i64) (.int .i64 0) k) ∧ Below w.heap.size w wr) (fun i _ => n - (intOf i).toNat)
  case atStart =>
    refine ⟨0, by omega, rfl, ?_, below_size.alloc (Nat.le_refl _) _⟩
    rw [fillV_zero, List.length_map, HL.out]; exact Blk.new _ _ _
  case round =>
    obtain ⟨k, hk, rfl, hblk, hb⟩ := hrel
    by_cases hlt : k < n
    · obtain ⟨ad, x, rfl, hab, hx, hc⟩ := H.out.at_ hlt
      have hc' : wr.cell? (ad.add k) = some (.int .i64 x) := (hb.cell (p := ad.add k) (by rw [block_add]; exact hab)).trans hc
      have hd : wr.cell? ⟨w.heap.size, k, none⟩ = some (.int .i64 0) := by rw [hblk.cell]; exact fillV_at (by rw [List.length_map, HL.out]; exact hlt)
      have hf := hblk.frozen k
      have Hx := Lib.hid hx
      have HB := Lib.hid hblk
      have Hb := Lib.hid hb
      clear hx hc hblk hb
      go_wp2
      go_roundw
      case rel =>
        refine ⟨k + 1, by omega, by go_num, ?_, Hb.out.setCell (Nat.le_refl _) _⟩
        have := HB.out.set_ k (.int .i64 x)
        rwa [fillV_set (by rw [List.getElem?_map, Hx.out]; rfl)] at this
      case measure => simp [intOf]; omega
    · have hkn : k = n := by omega
      have HB := Lib.hid hblk
      have Hb := Lib.hid hb
      clear hblk hb
      go_wp2
      go_ret
      refine ⟨rfl, ?_, Hb.out⟩
      have := HB.out
      rw [hkn] at this
      rw [show n = (xs.map i64).length by rw [List.length_map, HL.out], fillV_all] at this
      exact this.wr (Nat.le_refl _) this.lt (by rw [← HL.out, show xs.length = (xs.map i64).length by simp, List.take_length]) (by simp [HL.out])

def eqL (xs ys : List Int) : Bool := decide (xs = ys)

theorem eqInt64S_c (A A' : Option Addr) (n n' c c' : Nat) (xs ys : List Int) (w : World) (h : RdI w A n xs) (h' : RdI w A' n' ys) (hn : n ≤ 1000000000000) :
    Calls Tryz.prog 21 #[.slice A n c, .slice A' n' c'] w fun e w' => e = .returned (.bool (eqL xs ys)) ∧ Qt w w' := by
  have HL := Lib.hid h.len
  have HL' := Lib.hid h'.len
  have H := Lib.hid h
  have H' := Lib.hid h'
  clear h h'
  by_cases hnn : n = n'
  · have hne : ((n : Int) != (n' : Int)) = false := by simp [hnn]
    have HN := Lib.hid hnn; clear hnn
    go_enter Tryz.func21, Tryz.ntmps21
    go_wp2
    go_loopw [5] (fun i wr => ∃ k : Nat, k ≤ n ∧ i = .int .i64 k ∧ Hid (xs.take k = ys.take k) ∧ Qt w wr) (fun i _ => n - (intOf i).toNat)
    case atStart => exact ⟨0, by omega, rfl, by simp [Hid], Qt.refl _⟩
    case round =>
      obtain ⟨k, hk, rfl, hr, hq⟩ := hrel
      obtain ⟨m, rfl⟩ := hq
      by_cases hlt : k < n
      · obtain ⟨ad, x, rfl, hab, hx, hc⟩ := H.out.at_ hlt
        obtain ⟨ad', y, rfl, hab', hy, hc'⟩ := H'.out.at_ (show k < n' by rw [← HN.out]; exact hlt)
        have hlt' : k < n' := by rw [← HN.out]; exact hlt
        have Hx := Lib.hid hx
        have Hy := Lib.hid hy
        clear hx hy
        by_cases hxy : x = y
        · have hxy' : (x != y) = false := by simp [hxy]
          have HE := Lib.hid hxy; clear hxy
          go_wp2
          go_quiet (fail)
          go_wp2
          go_roundw
          case rel => exact ⟨k + 1, by omega, by go_num, by unfold Hid; rw [take_at Hx.out, take_at Hy.out, hr.out, HE.out], (by first | exact Qt.refl _ | exact ⟨_, rfl⟩ | exact Qt.drewN ⟨_, rfl⟩ _)⟩
          case measure => simp [intOf]; omega
        · have hxy' : (x != y) = true := by simpa using hxy
          have HE := Lib.hid hxy; clear hxy
          go_wp2
          go_quiet (fail)
          go_wp2
          go_ret
          refine ⟨?_, (by first | exact Qt.refl _ | exact ⟨_, rfl⟩ | exact Qt.drewN ⟨_, rfl⟩ _)⟩
          have : xs ≠ ys := fun e => HE.out (by have h1 := Hx.out; have h2 := Hy.out; rw [e, h2] at h1; injection h1 with h1; exact h1.symm)
          simp [eqL, this]
      · have HK := Lib.hid (show k = n by omega)
        go_wp2
        go_ret
        refine ⟨?_, (by first | exact Qt.refl _ | exact ⟨_, rfl⟩ | exact Qt.drewN ⟨_, rfl⟩ _)⟩
        have h1 := hr.out
        rw [List.take_of_length_le (by rw [HL.out]; omega), List.take_of_length_le (by rw [HL'.out, ← HN.out]; omega)] at h1
        simp [eqL, h1]
  · have hne : ((n : Int) != (n' : Int)) = true := by simp; omega
    have HN := Lib.hid hnn; clear hnn
    go_enter Tryz.func21, Tryz.ntmps21
    go_wp2
    go_ret
    refine ⟨?_, Qt.refl _⟩
    have : xs ≠ ys := fun e => HN.out (by rw [← HL.out, ← HL'.out, e])
    simp [eqL, this]

theorem eqInt64S_t (A A' : Option Addr) (n n' c c' : Nat) (xs : List Int) (w : World) (h : RdI w A n xs) (h' : RdI w A' n' xs) (hn : n ≤ 1000000000000) :
    Calls Tryz.prog 21 #[.slice A n c, .slice A' n' c'] w fun e w' => e = .returned (.bool true) ∧ Below w.heap.size w w' :=
  (eqInt64S_c A A' n n' c c' xs xs w h h' hn).mono fun e w' ⟨he, hq⟩ => ⟨by rw [he]; simp [eqL], hq.below _⟩

end Go.Proofs.YtebjpmmgdkepjaaGreatDoor
/-
  Things in memory as lists of rows of cells: how they read, that they may be written, that nothing else is touched. Nothing of the program.
-/
namespace Go.Proofs.YtebjpmmgdkepjaaGreatDoor
open Go.RowKit

/-- a row of cells -/
structure Seg where
  A : Option Addr
  n : Nat
  vs : List Value

/-- all rows read so -/
def RdS (w : World) (ss : List Seg) : Prop := ∀ s ∈ ss, Rd w s.A s.n s.vs
/-- .. and lie below block B -/
def RdSU (w : World) (B : Nat) (ss : List Seg) : Prop := ∀ s ∈ ss, RdU w B s.A s.n s.vs
/-- two rows in different blocks -/
def apart (s t : Seg) : Prop := ∀ a b, s.A = some a → t.A = some b → 0 < s.n → 0 < t.n → a.block ≠ b.block
/-- all rows may be written, each in a block of its own, in blocks from lo to hi -/
structure WrS (w : World) (lo hi : Nat) (ss : List Seg) : Prop where
  each : ∀ s ∈ ss, Wr w lo hi s.A s.n s.vs
  apart : ss.Pairwise apart

section
variable {w w' : World} {B lo hi l r : Nat} {ss tt : List Seg} {s : Seg}
theorem RdS.below (h : RdS w ss) (hb : Below w.heap.size w w') : RdS w' ss := fun s hs => (h s hs).below hb
theorem RdS.alloc (h : RdS w ss) (o : Obj) : RdS (w.alloc o) ss := fun s hs => (h s hs).alloc o
theorem RdS.drew (h : RdS w ss) : RdS w.drew ss := h
theorem RdS.drewN (h : RdS w ss) (k : Nat) : RdS (w.drewN k) ss := h
theorem RdS.one {A : Option Addr} {n : Nat} {vs : List Value} (h : Rd w A n vs) : RdS w [⟨A, n, vs⟩] := fun s hs => by rw [List.mem_singleton] at hs; subst hs; exact h
theorem RdS.cons (h : Rd w s.A s.n s.vs) (h' : RdS w ss) : RdS w (s :: ss) := fun t ht => by
  rcases List.mem_cons.1 ht with rfl | ht
  · exact h
  · exact h' t ht
theorem RdS.append (h : RdS w ss) (h' : RdS w tt) : RdS w (ss ++ tt) := fun t ht => by
  rcases List.mem_append.1 ht with ht | ht
  · exact h t ht
  · exact h' t ht
theorem RdS.head (h : RdS w (s :: ss)) : Rd w s.A s.n s.vs := h s (by simp)
theorem RdS.tail (h : RdS w (s :: ss)) : RdS w ss := fun t ht => h t (by simp [ht])
theorem RdS.left (h : RdS w (ss ++ tt)) : RdS w ss := fun t ht => h t (by simp [ht])
theorem RdS.right (h : RdS w (ss ++ tt)) : RdS w tt := fun t ht => h t (by simp [ht])
theorem RdS.nil : RdS w [] := fun _ hs => by cases hs
theorem RdSU.mk' (h : RdS w ss) : RdSU w w.heap.size ss := fun s hs => RdU.mk' (h s hs)
theorem RdSU.below (h : RdSU w B ss) (hb : Below w.heap.size w w') : RdSU w' B ss := fun s hs => (h s hs).below hb
theorem RdSU.keep (h : RdSU w B ss) (hk : KeepR lo hi w w') (hx : B ≤ lo) : RdSU w' B ss := fun s hs => (h s hs).keep hk hx
theorem RdSU.rd (h : RdSU w B ss) : RdS w ss := fun s hs => (h s hs).1
theorem WrS.rd (h : WrS w lo hi ss) : RdS w ss := fun s hs => (h.each s hs).rd
theorem WrS.below (h : WrS w lo hi ss) (hb : Below w.heap.size w w') : WrS w' lo hi ss := ⟨fun s hs => (h.each s hs).below hb, h.apart⟩
theorem WrS.wider {lo' hi' : Nat} (h : WrS w lo hi ss) (h1 : lo' ≤ lo) (h2 : hi ≤ hi') : WrS w lo' hi' ss := ⟨fun s hs => (h.each s hs).wider h1 h2, h.apart⟩
theorem WrS.alloc (h : WrS w lo hi ss) (o : Obj) : WrS (w.alloc o) lo hi ss := ⟨fun s hs => (h.each s hs).alloc o, h.apart⟩
theorem WrS.keep (h : WrS w lo hi ss) (hk : KeepR l r w w') (hx : hi ≤ l ∨ r ≤ lo) : WrS w' lo hi ss := ⟨fun s hs => (h.each s hs).keep hk hx, h.apart⟩
theorem WrS.set_far (h : WrS w lo hi ss) {p : Addr} (hp : p.block < lo ∨ hi ≤ p.block) (u : Value) : WrS (w.setCell p u) lo hi ss := ⟨fun s hs => (h.each s hs).set_far hp u, h.apart⟩
theorem WrS.nil : WrS w lo hi [] := ⟨(fun _ hs => by cases hs), List.Pairwise.nil⟩
theorem WrS.one {A : Option Addr} {n : Nat} {vs : List Value} (h : Wr w lo hi A n vs) : WrS w lo hi [⟨A, n, vs⟩] :=
  ⟨fun s hs => by rw [List.mem_singleton] at hs; subst hs; exact h, List.pairwise_singleton _ _⟩
theorem WrS.append {mid : Nat} (h : WrS w lo mid ss) (h' : WrS w mid hi tt) (h1 : lo ≤ mid) (h2 : mid ≤ hi) : WrS w lo hi (ss ++ tt) := by
  refine ⟨fun s hs => ?_, List.pairwise_append.2 ⟨h.apart, h'.apart, fun s hs t ht a b ha hb hn hm => ?_⟩⟩
  · rcases List.mem_append.1 hs with hs | hs
    · exact (h.each s hs).wider (Nat.le_refl _) h2
    · exact (h'.each s hs).wider h1 (Nat.le_refl _)
  · obtain ⟨a', e, _, ha2, _⟩ := (h.each s hs).2 hn
    obtain ⟨b', e', hb1, _⟩ := (h'.each t ht).2 hm
    rw [ha] at e; rw [hb] at e'
    injection e with e; injection e' with e'
    subst e; subst e'
    omega
theorem WrS.cons1 {mid : Nat} {A : Option Addr} {n : Nat} {vs : List Value} (h : Wr w lo mid A n vs) (h' : WrS w mid hi tt) (h1 : lo ≤ mid) (h2 : mid ≤ hi) : WrS w lo hi (⟨A, n, vs⟩ :: tt) := (WrS.one h).append h' h1 h2
theorem WrS.head (h : WrS w lo hi (s :: ss)) : Wr w lo hi s.A s.n s.vs := h.each s (by simp)
theorem WrS.tail (h : WrS w lo hi (s :: ss)) : WrS w lo hi ss := ⟨fun t ht => h.each t (by simp [ht]), (List.pairwise_cons.1 h.apart).2⟩

theorem KeepR.none_ {a : Nat} (h : KeepR a a w w') : KeepR lo hi w w' := ⟨h.os, h.tape, h.output, h.size, fun k hk _ => h.block k hk (by omega)⟩

/-- one row's own range of blocks: whatever changes only there leaves the other rows as they were -/
theorem WrS.range {pre post : List Seg} (h : WrS w lo hi (pre ++ s :: post)) : ∃ l r, Wr w l r s.A s.n s.vs ∧ (∀ w', KeepR l r w w' → KeepR lo hi w w') ∧
    (∀ w' vs', KeepR l r w w' → Wr w' l r s.A s.n vs' → WrS w' lo hi (pre ++ ⟨s.A, s.n, vs'⟩ :: post)) := by
  have hs := h.each s (by simp)
  by_cases hn : 0 < s.n
  · obtain ⟨ad, e, h1, h2, h3, hc⟩ := hs.2 hn
    refine ⟨ad.block, ad.block + 1, ⟨hs.1, fun _ => ⟨ad, e, Nat.le_refl _, by omega, h3, hc⟩⟩, fun w' hk => hk.wider h1 (by omega), fun w' vs' hk hw => ?_⟩
    have hother : ∀ t ∈ pre ++ post, Wr w' lo hi t.A t.n t.vs := by
      intro t ht
      have ht' : t ∈ pre ++ s :: post := by
        rcases List.mem_append.1 ht with ht | ht
        · simp [ht]
        · simp [ht]
      have hw := h.each t ht'
      refine ⟨hw.1, fun hm => ?_⟩
      obtain ⟨b, e', g1, g2, g3, gc⟩ := hw.2 hm
      have hne : ad.block ≠ b.block := by
        have hp := List.pairwise_append.1 h.apart
        rcases List.mem_append.1 ht with ht | ht
        · exact fun e2 => hp.2.2 t ht s (by simp) b ad e' e hm hn e2.symm
        · exact (List.pairwise_cons.1 hp.2.1).1 t ht ad b e e' hn hm
      have hb := hk.block b.block g3 (by omega)
      exact ⟨b, e', g1, g2, Nat.lt_of_lt_of_le g3 hk.size, fun j u hu => ⟨(World.cell?_of_block (a := b.add j) (by rw [block_add]; exact hb)).trans (gc j u hu).1, (World.frozen?_of_block (a := b.add j) (by rw [block_add]; exact hb)).trans (gc j u hu).2⟩⟩
    refine ⟨fun t ht => ?_, ?_⟩
    · rcases List.mem_append.1 ht with ht | ht
      · exact hother t (by simp [ht])
      · rcases List.mem_cons.1 ht with rfl | ht
        · exact hw.wider h1 (by omega)
        · exact hother t (by simp [ht])
    · have hp := List.pairwise_append.1 h.apart
      have hq := List.pairwise_cons.1 hp.2.1
      refine List.pairwise_append.2 ⟨hp.1, List.pairwise_cons.2 ⟨fun t ht => hq.1 t ht, hq.2⟩, fun t ht u hu => ?_⟩
      rcases List.mem_cons.1 hu with rfl | hu
      · exact hp.2.2 t ht s (by simp)
      · exact hp.2.2 t ht u (by simp [hu])
  · refine ⟨0, 0, ⟨hs.1, fun h0 => absurd h0 hn⟩, fun w' hk => hk.none_, fun w' vs' hk hw => ?_⟩
    have hb : Below w.heap.size w w' := hk.none_.below (lo := w.heap.size) (hi := 0) (Nat.le_refl _) (Nat.le_refl _)
    have h' := h.below hb
    refine ⟨fun t ht => ?_, ?_⟩
    · rcases List.mem_append.1 ht with ht | ht
      · exact h'.each t (by simp [ht])
      · rcases List.mem_cons.1 ht with rfl | ht
        · exact ⟨hw.1, fun h0 => absurd h0 hn⟩
        · exact h'.each t (by simp [ht])
    · have hp := List.pairwise_append.1 h.apart
      have hq := List.pairwise_cons.1 hp.2.1
      refine List.pairwise_append.2 ⟨hp.1, List.pairwise_cons.2 ⟨fun t ht => hq.1 t ht, hq.2⟩, fun t ht u hu => ?_⟩
      rcases List.mem_cons.1 hu with rfl | hu
      · exact hp.2.2 t ht s (by simp)
      · exact hp.2.2 t ht u (by simp [hu])
end
/-- a row of numbers -/
def sgI (A : Option Addr) (n : Nat) (xs : List Int) : Seg := ⟨A, n, xs.map i64⟩

/-! ### A row of elements of k cells each -/
section
variable {α : Type} (f : α → List Value) (k : Nat)
/-- a row of n elements -/
def sgX (A : Option Addr) (n : Nat) (xs : List α) : Seg := ⟨A, n * k, xs.flatMap f⟩
theorem flatX_len (hf : ∀ x, (f x).length = k) : ∀ xs : List α, (xs.flatMap f).length = xs.length * k
  | [] => by simp
  | x :: l => by rw [List.flatMap_cons, List.length_append, hf, flatX_len hf l, List.length_cons, Nat.add_mul]; omega
theorem flatX_at (hf : ∀ x, (f x).length = k) : ∀ (xs : List α) (j i : Nat) (x : α), xs[j]? = some x → i < k → (xs.flatMap f)[j * k + i]? = (f x)[i]?
  | [], j, i, x, h, _ => by simp at h
  | y :: l, 0, i, x, h, hi => by
    simp at h; subst h
    rw [List.flatMap_cons, Nat.zero_mul, Nat.zero_add, List.getElem?_append_left (by rw [hf]; exact hi)]
  | y :: l, j + 1, i, x, h, hi => by
    rw [List.flatMap_cons, List.getElem?_append_right (by rw [hf, Nat.add_mul]; omega), hf, show (j + 1) * k + i - k = j * k + i by rw [Nat.add_mul]; omega]
    exact flatX_at hf l j i x (by simpa using h) hi
end
end Go.Proofs.YtebjpmmgdkepjaaGreatDoor
/-
  Rows of structs of two or three numbers. Nothing of the program.
-/
namespace Go.Proofs.YtebjpmmgdkepjaaGreatDoor
open Go.RowKit

def enc2 (x : Int × Int) : List Value := [i64 x.1, i64 x.2]
def enc3 (x : Int × Int × Int) : List Value := [i64 x.1, i64 x.2.1, i64 x.2.2]
theorem enc2_len (x : Int × Int) : (enc2 x).length = 2 := rfl
theorem enc3_len (x : Int × Int × Int) : (enc3 x).length = 3 := rfl
theorem next_off (ad : Addr) (m i : Nat) : (⟨(ad.add m).block, (ad.add m).off + (i + 1), none⟩ : Addr) = ad.add (m + (i + 1)) := by
  rw [block_add, off_add, Addr.add, if_neg (by omega), Nat.add_assoc]

def Rd2 (w : World) (A : Option Addr) (n : Nat) (xs : List (Int × Int)) : Prop := Rd w A (n * 2) (xs.flatMap enc2)
def Rd3 (w : World) (A : Option Addr) (n : Nat) (xs : List (Int × Int × Int)) : Prop := Rd w A (n * 3) (xs.flatMap enc3)
section
variable {w w' : World} {n : Nat} {A : Option Addr}
theorem Rd2.len {xs : List (Int × Int)} (h : Rd2 w A n xs) : xs.length = n := by have := h.1; rw [flatX_len enc2 2 enc2_len] at this; omega
theorem Rd3.len {xs : List (Int × Int × Int)} (h : Rd3 w A n xs) : xs.length = n := by have := h.1; rw [flatX_len enc3 3 enc3_len] at this; omega
theorem Rd2.below {xs : List (Int × Int)} (h : Rd2 w A n xs) (hb : Below w.heap.size w w') : Rd2 w' A n xs := Rd.below h hb
theorem Rd3.below {xs : List (Int × Int × Int)} (h : Rd3 w A n xs) (hb : Below w.heap.size w w') : Rd3 w' A n xs := Rd.below h hb
theorem Rd2.alloc {xs : List (Int × Int)} (h : Rd2 w A n xs) (o : Obj) : Rd2 (w.alloc o) A n xs := Rd.alloc h o
theorem Rd3.alloc {xs : List (Int × Int × Int)} (h : Rd3 w A n xs) (o : Obj) : Rd3 (w.alloc o) A n xs := Rd.alloc h o
theorem Rd2.at_ {k : Nat} {xs : List (Int × Int)} (h : Rd2 w A n xs) (hk : k < n) : ∃ ad x, A = some ad ∧ ad.block < w.heap.size ∧ xs[k]? = some x ∧ w.cell? (ad.add (k * 2)) = some (i64 x.1) ∧ w.cell? ⟨(ad.add (k * 2)).block, (ad.add (k * 2)).off + 1, none⟩ = some (i64 x.2) := by
  obtain ⟨ad, e, hlt, hc⟩ := h.2 (by omega)
  have hl := h.len
  have hx : xs[k]? = some xs[k] := List.getElem?_eq_getElem (by omega)
  have h0 := flatX_at enc2 2 enc2_len xs k 0 _ hx (by omega)
  have h1 := flatX_at enc2 2 enc2_len xs k 1 _ hx (by omega)
  exact ⟨ad, xs[k], e, hlt, hx, hc _ _ h0, by rw [next_off ad (k * 2) 0]; exact hc _ _ h1⟩
theorem Rd3.at_ {k : Nat} {xs : List (Int × Int × Int)} (h : Rd3 w A n xs) (hk : k < n) : ∃ ad x, A = some ad ∧ ad.block < w.heap.size ∧ xs[k]? = some x ∧ w.cell? (ad.add (k * 3)) = some (i64 x.1) ∧ w.cell? ⟨(ad.add (k * 3)).block, (ad.add (k * 3)).off + 1, none⟩ = some (i64 x.2.1) ∧ w.cell? ⟨(ad.add (k * 3)).block, (ad.add (k * 3)).off + 2, none⟩ = some (i64 x.2.2) := by
  obtain ⟨ad, e, hlt, hc⟩ := h.2 (by omega)
  have hl := h.len
  have hx : xs[k]? = some xs[k] := List.getElem?_eq_getElem (by omega)
  have h0 := flatX_at enc3 3 enc3_len xs k 0 _ hx (by omega)
  have h1 := flatX_at enc3 3 enc3_len xs k 1 _ hx (by omega)
  have h2 := flatX_at enc3 3 enc3_len xs k 2 _ hx (by omega)
  exact ⟨ad, xs[k], e, hlt, hx, hc _ _ h0, by rw [next_off ad (k * 3) 0]; exact hc _ _ h1, by rw [next_off ad (k * 3) 1]; exact hc _ _ h2⟩
end
theorem fillV_past' {vs : List Value} {z : Value} {k j : Nat} (h : k ≤ j) (hj : j < vs.length) : (fillV vs z k)[j]? = some z := by
  unfold fillV
  rw [List.getElem?_toArray, List.getElem?_append_right (by simp; omega), List.getElem?_replicate, if_pos (by simp; omega)]
theorem made_k (z : Value) (k n : Nat) (hk : 0 < k) : madeCells (Array.replicate k z) (n * k) = Array.replicate (n * k) z := by
  apply Array.ext
  · simp [madeCells]
  · intro i h1 h2
    have := Nat.mod_lt i hk
    simp [madeCells, this]
/-- 'make([]T, n)', k like cells an element -/
theorem run_mkK {P : Program} (t e : TypeId) (zz z : Value) (bytes k : Nat) (hk : 0 < k) (ht : P.underlying t = some (.slice e)) (hi : (P.info? e).map (fun i => (i.zero, i.size, i.bytes)) = some (some zz, k, bytes)) (hz : zz.cells = Array.replicate k z)
    (kl kc : IntKind) (n c : Nat) (hnc : n ≤ c) (hb : bytes * c ≤ 281474976710656) (h63 : c ≤ 9223372036854775807) (w : World) :
    (Instr.makeSlice t (.int kl (n : Int)) (.int kc (c : Int))).run P w = .ok (.slice (some ⟨w.heap.size, 0, none⟩) n c) (w.alloc (.cells (Array.replicate (c * k) z) e)) := by
  obtain ⟨i, hi0, hi1⟩ := Option.map_eq_some_iff.1 hi
  simp only [Prod.mk.injEq] at hi1
  obtain ⟨h1, h2, h3⟩ := hi1
  have hb' : (i.bytes : Int) * (c : Int) ≤ 281474976710656 := by
    have h : ((i.bytes * c : Nat) : Int) ≤ 281474976710656 := by rw [h3]; omega
    rwa [Int.natCast_mul] at h
  have hr := run_make (P := P) w t e i zz ht hi0 h1 kl kc n c (by omega) (by omega) hb' (by omega)
  simp only [Int.toNat_natCast, h2, hz, made_k z k c hk] at hr
  exact hr
theorem next_1 (ad : Addr) (m : Nat) : (⟨(ad.add m).block, (ad.add m).off + 1, none⟩ : Addr) = ad.add (m + 1) := next_off ad m 0
theorem next_2 (ad : Addr) (m : Nat) : (⟨(ad.add m).block, (ad.add m).off + 2, none⟩ : Addr) = ad.add (m + 1 + 1) := next_off ad m 1
/-- the first m cells of a row hold k0, k0 + 1, .. -/
def MarkTo (w : World) (lo hi : Nat) (A : Option Addr) (N : Nat) (k0 : Int) (m : Nat) : Prop := ∃ us, Wr w lo hi A N us ∧ ∀ j, j < m → us[j]? = some (i64 (k0 + j))
theorem MarkTo.step {w : World} {lo hi N m : Nat} {k0 v : Int} {ad p : Addr} (h : MarkTo w lo hi (some ad) N k0 m) (hp : p = ad.add m) (hm : m < N) (hv : v = k0 + m) : MarkTo (w.setCell p (.int .i64 v)) lo hi (some ad) N k0 (m + 1) := by
  subst hp; subst hv
  obtain ⟨us, hw, hu⟩ := h
  refine ⟨_, hw.set hm _, fun j hj => ?_⟩
  by_cases hjk : m = j
  · subst hjk; rw [List.getElem?_set_self (by have := hw.1; omega)]
  · rw [List.getElem?_set_ne hjk]; exact hu j (by omega)
theorem MarkTo.all {w : World} {lo hi N : Nat} {k0 : Int} {A : Option Addr} (h : MarkTo w lo hi A N k0 N) : Wr w lo hi A N ((marks k0 N).map i64) := by
  obtain ⟨us, hw, hu⟩ := h
  have e : us = (marks k0 N).map i64 := by
    apply List.ext_getElem?
    intro j
    by_cases hj : j < N
    · rw [hu j hj, List.getElem?_map, marks_at hj]; rfl
    · rw [List.getElem?_eq_none (by rw [hw.1]; omega), List.getElem?_eq_none (by rw [List.length_map, marks_len]; omega)]
  rw [← e]; exact hw
theorem MarkTo.cells {w : World} {lo hi N m i : Nat} {k0 : Int} {A : Option Addr} (h : MarkTo w lo hi A N k0 m) (hi' : i < N) : ∃ ad v, A = some ad ∧ lo ≤ ad.block ∧ ad.block < hi ∧ ad.block < w.heap.size ∧ w.cell? (ad.add i) = some v ∧ w.frozen? (ad.add i) = false := by
  obtain ⟨us, hw, _⟩ := h
  obtain ⟨ad, v, e, h1, h2, h3, _, hc, hf⟩ := hw.at_ hi'
  exact ⟨ad, v, e, h1, h2, h3, hc, hf⟩
theorem marked_at {w : World} {N i : Nat} {k0 : Int} {A : Option Addr} (h : Rd w A N ((marks k0 N).map i64)) (hi : i < N) : ∃ ad, A = some ad ∧ ad.block < w.heap.size ∧ w.cell? (ad.add i) = some (i64 (k0 + i)) := by
  obtain ⟨ad, v, e, hb, hv, hc⟩ := h.at_ hi
  rw [List.getElem?_map, marks_at hi] at hv
  injection hv with hv; subst hv
  exact ⟨ad, e, hb, hc⟩
theorem set_other {w : World} {p q : Addr} {v : Value} (u : Value) (h : w.cell? q = some v) (hne : q.off ≠ p.off) : (w.setCell p u).cell? q = some v := by
  rw [World.cell?_setCell_other _ _ _ _ (fun e => hne (by rw [e]))]; exact h
theorem new_cells2 {w : World} (o : Obj) (u v : Value) (t : TypeId) (j : Nat) (x : Value) (hj : [u, v][j]? = some x) : ((w.alloc o).alloc (.cells #[u, v] t)).cell? ((⟨w.heap.size + 1, 0, none⟩ : Addr).add j) = some x := by
  have := new_cell (w.alloc o) #[u, v] t j
  rw [World.size_alloc] at this
  rw [head_add, this, ← hj]
  simp
theorem new_cellsK {w : World} (cs : Array Value) (t : TypeId) (j : Nat) (x : Value) (hj : cs.toList[j]? = some x) : (w.alloc (.cells cs t)).cell? ((⟨w.heap.size, 0, none⟩ : Addr).add j) = some x := by
  rw [head_add, new_cell w cs t j, ← hj]
  simp
theorem one_ints (xs : List Int) : ∀ u ∈ xs.map i64, u.oneCell' = true := by
  intro u hu
  obtain ⟨b, _, rfl⟩ := List.mem_map.1 hu
  rfl
theorem Rd.move {w w' : World} {A : Option Addr} {n : Nat} {vs : List Value} (h : Rd w A n vs) (hk : ∀ ad, 0 < n → A = some ad → w'.heap[ad.block]? = w.heap[ad.block]?) (hs : w.heap.size ≤ w'.heap.size) : Rd w' A n vs :=
  ⟨h.1, fun hn => by
    obtain ⟨ad, e, hlt, hc⟩ := h.2 hn
    have hb := hk ad hn e
    exact ⟨ad, e, Nat.lt_of_lt_of_le hlt hs, fun j u hu => (World.cell?_of_block (a := ad.add j) (by rw [block_add]; exact hb)).trans (hc j u hu)⟩⟩
end Go.Proofs.YtebjpmmgdkepjaaGreatDoor
/-
  The helpers of the laws at []Func: sizes, copies, comparisons, marks.
-/
namespace Go.Proofs.YtebjpmmgdkepjaaGreatDoor
open Go.RowKit

theorem szFuncS_c (A : Option Addr) (n c : Nat) (left : Int) (w : World) (hn : n ≤ 9223372036854775807) (hl : 0 ≤ left) (hl' : left ≤ 1000000000000) :
    Calls Tryz.prog 15 #[.slice A n c, .int .i64 left] w fun e w' => e = .returned (.int .i64 (szOf left n)) ∧ Below w.heap.size w w' := by
  by_cases h : left - n < 0
  · go_enter Tryz.func15, Tryz.ntmps15
    go_wp2
    go_ret
    exact ⟨by rw [szOf, if_pos h]; rfl, below_size⟩
  · go_enter Tryz.func15, Tryz.ntmps15
    go_wp2
    go_ret
    exact ⟨by rw [szOf, if_neg (by omega)]; rfl, below_size⟩
theorem toFunc_c (a b c0 : Int) (w : World) : Calls Tryz.prog 47 #[.agg #[.int .i64 a, .int .i64 b, .int .i64 c0]] w fun e w' => e = .returned (.agg #[.int .i64 a, .int .i64 b, .int .i64 c0]) ∧ Below w.heap.size w w' := by
  go_enter Tryz.func47, Tryz.ntmps47
  go_wp2_with fail
  refine bodyPost_ret (v := .agg #[.int .i64 a, .int .i64 b, .int .i64 c0]) (by simp [results, Tryz.results47, go_sem]) rfl ⟨rfl, ?_⟩
  exact (by have hzz := ((below_size : Below w.heap.size w w)).size; repeat' (first | (with_reducible exact (below_size : Below w.heap.size w w)) | (with_reducible refine Below.alloc ?_ ?_ _) | (with_reducible refine Below.setCell ?_ ?_ _) | (with_reducible refine below_drew ?_) | omega | (simp; done) | (simp; omega)))
theorem info_Func : (Tryz.prog.info? 77).map (fun i => (i.zero, i.size, i.bytes)) = some (some (.agg #[.int .i64 0, .int .i64 0, .int .i64 0]), 3, 24) := by kernel_rfl
set_option maxHeartbeats 2000000 in
theorem toFuncS_c (A : Option Addr) (n c : Nat) (xs : List (Int × Int × Int)) (w : World) (h : Rd3 w A n xs) (hn : n ≤ 1000000000000) :
    Calls Tryz.prog 17 #[.slice A n c] w fun e w' => e = .returned (.slice (some ⟨w.heap.size, 0, none⟩) n n) ∧ Wr w' w.heap.size w'.heap.size (some ⟨w.heap.size, 0, none⟩) (n * 3) (xs.flatMap enc3) ∧ Below w.heap.size w w' := by
  have HL := Lib.hid h.len
  have HF := Lib.hid (show (xs.flatMap enc3).length = n * 3 by rw [flatX_len enc3 3 enc3_len, HL.out])
  have H := Lib.hid h; clear h
  have hmk := run_mkK (P := Tryz.prog) 45 77 _ (.int .i64 0) 24 3 (by omega) Tryz.underlying45 info_Func rfl .i64 .i64 n n (Nat.le_refl _) (by omega) (by omega)
  go_enter Tryz.func17, Tryz.ntmps17
  go_wp2
  clear hmk
  go_loopw [4] (fun i wr => ∃ k : Nat, k ≤ n ∧ i = .int .i64 k ∧ Blk wr w.heap.size 77 (fillV (xs.flatMap enc3) (.int .i64 0) (k * 3)) ∧ Below w.heap.size w wr) (fun i _ => n - (intOf i).toNat)
  case atStart =>
    refine ⟨0, by omega, rfl, ?_, below_size.alloc (Nat.le_refl _) _⟩
    rw [Nat.zero_mul, fillV_zero, HF.out]; exact Blk.new _ _ _
  case round =>
    obtain ⟨k, hk, rfl, hblk, hb⟩ := hrel
    have HB := Lib.hid hblk; have Hb := Lib.hid hb
    by_cases hlt : k < n
    · obtain ⟨ad, x, rfl, hab, hx, hc0, hc1, hc2⟩ := (H.out.below hb).at_ hlt
      obtain ⟨p0, p1, p2⟩ := x
      have X0 := Lib.hid (show (xs.flatMap enc3)[k * 3]? = some (.int .i64 p0) from flatX_at enc3 3 enc3_len xs k 0 _ hx (by omega))
      have X1 := Lib.hid (show (xs.flatMap enc3)[k * 3 + 1]? = some (.int .i64 p1) from flatX_at enc3 3 enc3_len xs k 1 _ hx (by omega))
      have X2 := Lib.hid (show (xs.flatMap enc3)[k * 3 + 2]? = some (.int .i64 p2) from flatX_at enc3 3 enc3_len xs k 2 _ hx (by omega))
      clear hx hblk hb
      go_wp2_with fail
      refine (toFunc_c _ _ _ _).mono ?_
      rintro e w1 ⟨rfl, hb1⟩
      have N := Lib.hid (HB.out.keep hb1)
      have d0 := N.out.cell (k * 3); have f0 := N.out.frozen (k * 3)
      have d1 := N.out.cell (k * 3 + 1); have f1 := N.out.frozen (k * 3 + 1)
      have d2 := N.out.cell (k * 3 + 2); have f2 := N.out.frozen (k * 3 + 2)
      rw [fillV_at (by rw [HF.out]; omega)] at d0
      rw [fillV_past' (by omega) (by rw [HF.out]; omega)] at d1
      rw [fillV_past' (by omega) (by rw [HF.out]; omega)] at d2
      have hz1 := hb1.size
      have BB := Lib.hid (below_chain Hb.out Hb.out.size hb1)
      clear hb1
      go_wp2
      go_roundw
      case rel =>
        refine ⟨k + 1, by omega, by go_num, ?_, (by have hzz := (BB.out).size; repeat' (first | (with_reducible exact BB.out) | (with_reducible refine Below.alloc ?_ ?_ _) | (with_reducible refine Below.setCell ?_ ?_ _) | (with_reducible refine below_drew ?_) | omega | (simp; done) | (simp; omega)))⟩
        have h2 := (((N.out.set_ (k * 3) (.int .i64 p0)).set_ (k * 3 + 1) (.int .i64 p1)).set_ (k * 3 + 2) (.int .i64 p2))
        rw [fillV_set X0.out, fillV_set X1.out, fillV_set X2.out] at h2
        rw [show (k + 1) * 3 = k * 3 + 1 + 1 + 1 by omega]
        exact h2
      case measure => simp [intOf]; omega
    · have HK := Lib.hid (show k = n by omega)
      clear hblk hb
      go_wp2
      go_ret
      refine ⟨rfl, ?_, Hb.out⟩
      have := HB.out
      rw [HK.out, ← HF.out, fillV_all] at this
      exact this.wr (Nat.le_refl _) this.lt (by rw [← HF.out]; exact List.take_length) (by rw [← HF.out]; exact Nat.le_refl _)
theorem eqFunc_t (a b c0 : Int) (w : World) : Calls Tryz.prog 50 #[.agg #[.int .i64 a, .int .i64 b, .int .i64 c0], .agg #[.int .i64 a, .int .i64 b, .int .i64 c0]] w fun e w' => e = .returned (.bool true) ∧ Below w.heap.size w w' := by
  have g0 : (a != a) = false := by simp
  have g1 : (b != b) = false := by simp
  have g2 : (c0 != c0) = false := by simp
  go_enter Tryz.func50, Tryz.ntmps50
  go_wp2
  go_ret
  exact ⟨rfl, (below_size.alloc (Nat.le_refl _) _).alloc (by simp) _⟩
set_option maxHeartbeats 2000000 in
theorem eqFuncS_t (A A' : Option Addr) (n n' c c' : Nat) (xs : List (Int × Int × Int)) (w : World) (h : Rd3 w A n xs) (h' : Rd3 w A' n' xs) (hn : n ≤ 1000000000000) :
    Calls Tryz.prog 20 #[.slice A n c, .slice A' n' c'] w fun e w' => e = .returned (.bool true) ∧ Below w.heap.size w w' := by
  have hnn : n' = n := by rw [← h.len, ← h'.len]
  subst hnn
  have H := Lib.hid h; have H' := Lib.hid h'; clear h h'
  have hne : ((n' : Int) != (n' : Int)) = false := by simp
  go_enter Tryz.func20, Tryz.ntmps20
  go_wp2
  go_loopw [5] (fun i wr => ∃ k : Nat, k ≤ n' ∧ i = .int .i64 k ∧ Below w.heap.size w wr) (fun i _ => n' - (intOf i).toNat)
  case atStart => exact ⟨0, by omega, rfl, below_size⟩
  case round =>
    obtain ⟨k, hk, rfl, hb⟩ := hrel
    have HB := Lib.hid hb
    by_cases hlt : k < n'
    · obtain ⟨ad, x, rfl, hab, hx, hc0, hc1, hc2⟩ := (H.out.below hb).at_ hlt
      obtain ⟨ad', y, rfl, hab', hy, hd0, hd1, hd2⟩ := (H'.out.below hb).at_ hlt
      rw [hx] at hy
      injection hy with hy
      subst hy
      obtain ⟨p0, p1, p2⟩ := x
      clear hx hb
      have x0 := Ext.cell hc0; have y0 := Ext.cell hd0; have x1 := Ext.cell hc1; have y1 := Ext.cell hd1; have x2 := Ext.cell hc2; have y2 := Ext.cell hd2
      go_wp2
      refine Mix.wp_region_mix [0, 0, 0, 3, 0, 0, 0, 3, 1, 0] (fun w' => ∃ x : Ext wr, w' = x.w) (by kernel_rfl) (by kernel_rfl) (InExt.drew _) ?_
      repeat (first | (refine Mix.wpMix_read (by rfl) ?_; go_big_quiet_step (fail); refine wpQuiet_nil ?_) | (refine Mix.wpMix_pure (by rfl) ?_; go_big_quiet_step (fail); refine wpQuiet_nil ?_))
      refine Mix.wpMix_chg (by rfl) (fun K hK => ?_)
      go_wp2_with fail
      refine (eqFunc_t _ _ _ _).mono ?_
      rintro e w1 ⟨rfl, hb⟩
      have em := below_of_drew hb
      go_wp2_with fail
      refine hK _ _ ⟨⟨_, em⟩, rfl⟩ ?_
      clear hK K
      repeat (first | (refine Mix.wpMix_read (by rfl) ?_; go_big_quiet_step (fail); refine wpQuiet_nil ?_) | (refine Mix.wpMix_pure (by rfl) ?_; go_big_quiet_step (fail); refine wpQuiet_nil ?_))
      (refine Mix.wpMix_nil ?_; try simp only [Exit.then])
      go_wp2
      go_roundw
      case rel => exact ⟨k + 1, by omega, by go_num, below_chain HB.out HB.out.size em⟩
      case measure => simp [intOf]; omega
    · clear hb
      go_wp2
      go_ret
      exact ⟨rfl, HB.out⟩
end Go.Proofs.YtebjpmmgdkepjaaGreatDoor
