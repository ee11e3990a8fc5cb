/-
  The helpers of the laws at slices, in the form of rows.
-/
import Derived.Test.YtdendllginlidaaGreatDoorSegX
import Derived.Test.YtdendllginlidaaGreatDoorLawI
import Derived.Test.YtdendllginlidaaGreatDoorLawRule
namespace Go.Proofs.YtdendllginlidaaGreatDoor
open Go.RowKit

theorem RdSU.belowB {w w' : World} {B : Nat} {ss : List Seg} (h : RdSU w B ss) (hb : Below B w w') : RdSU w' B ss := fun s hs => ⟨(h s hs).1.belowB (h s hs).2 hb, (h s hs).2⟩
theorem szRuleS_s (A : Option Addr) (n c : Nat) (_xs : List (Int × Int × Int)) (left : Int) (w : World) (hn : n ≤ 9223372036854775807) (hl : 0 ≤ left) (hl' : left ≤ 1000000000000) :
    Calls Tryz.prog 19 #[.slice A n c, .int .i64 left] w fun e w' => e = .returned (.int .i64 (szOf left n)) ∧ Below w.heap.size w w' := szRuleS_c A n c left w hn hl hl'
theorem toRuleS_s (A : Option Addr) (n c : Nat) (xs : List (Int × Int × Int)) (w : World) (h : RdS w [sgX enc3 3 A n xs]) (hn : n ≤ 1000000000) :
    Calls Tryz.prog 25 #[.slice A n c] w fun e w' => ∃ g, e = .returned (.slice (some ⟨g, 0, none⟩) n n) ∧ WrS w' w.heap.size w'.heap.size [sgX enc3 3 (some ⟨g, 0, none⟩) n xs] ∧ Below w.heap.size w w' :=
  (toRuleS_c A n c xs w h.head (by omega)).mono fun _ _ ⟨he, hw, hb⟩ => ⟨_, he, WrS.one hw, hb⟩
theorem eqInt64S_s (A : Option Addr) (n c : Nat) (xs : List Int) (A' : Option Addr) (n' c' : Nat) (w : World) (h : RdS w [sgI A n xs]) (h' : RdS w [sgI A' n' xs]) (hn : n ≤ 1000000000) :
    Calls Tryz.prog 32 #[.slice A n c, .slice A' n' c'] w fun e w' => e = .returned (.bool true) ∧ Below w.heap.size w w' := eqInt64S_t A A' n n' c c' xs w h.head h'.head (by omega)
theorem markInt64S_s (A : Option Addr) (n c : Nat) (xs : List Int) (lo hi : Nat) (k0 : Int) (w : World) (h : WrS w lo hi [sgI A n xs]) (hn : n ≤ 1000000000) (h0 : 0 ≤ k0) (h1 : k0 ≤ 100000000000) :
    Calls Tryz.prog 35 #[.slice A n c, .int .i64 k0] w fun e w' => e = .returned (.int .i64 (k0 + n)) ∧ WrS w' lo hi [⟨A, n, (marks k0 n).map i64⟩] ∧ KeepR lo hi w w' :=
  (markInt64S_c A n c lo hi _ k0 w h.head (by omega) h0 (by omega)).mono fun _ _ ⟨he, hw, hk⟩ => ⟨he, WrS.one hw, hk⟩
theorem heldInt64S_r (A : Option Addr) (n c : Nat) (_xs : List Int) (k0 : Int) (w : World) (h : RdS w [⟨A, n, (marks k0 n).map i64⟩]) (hn : n ≤ 1000000000) (h0 : 0 ≤ k0) (h1 : k0 ≤ 1000000000000) :
    Calls Tryz.prog 36 #[.slice A n c, .int .i64 k0] w fun e w' => e = .returned (.int .i64 (k0 + n)) ∧ Below w.heap.size w w' := heldInt64S_c A n c k0 w h.head (by omega) h0 h1
theorem eqRuleS_s (A : Option Addr) (n c : Nat) (xs : List (Int × Int × Int)) (A' : Option Addr) (n' c' : Nat) (w : World) (h : RdS w [sgX enc3 3 A n xs]) (h' : RdS w [sgX enc3 3 A' n' xs]) (hn : n ≤ 1000000000) :
    Calls Tryz.prog 33 #[.slice A n c, .slice A' n' c'] w fun e w' => e = .returned (.bool true) ∧ Below w.heap.size w w' := eqRuleS_t A A' n n' c c' xs w h.head h'.head (by omega)
theorem markRuleS_s (A : Option Addr) (n c : Nat) (xs : List (Int × Int × Int)) (lo hi : Nat) (k0 : Int) (w : World) (h : WrS w lo hi [sgX enc3 3 A n xs]) (hn : n ≤ 1000000000) (h0 : 0 ≤ k0) (h1 : k0 ≤ 100000000000) :
    Calls Tryz.prog 34 #[.slice A n c, .int .i64 k0] w fun e w' => e = .returned (.int .i64 (k0 + (n * 3 : Nat))) ∧ WrS w' lo hi [⟨A, n * 3, (marks k0 (n * 3)).map i64⟩] ∧ KeepR lo hi w w' :=
  (markRuleS_c A n c lo hi _ k0 w h.head (by omega) h0 (by omega)).mono fun _ _ ⟨he, hw, hk⟩ => ⟨he, WrS.one hw, hk⟩
end Go.Proofs.YtdendllginlidaaGreatDoor
