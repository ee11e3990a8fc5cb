/-
  The helpers of the laws at slices, in the form of rows.
-/
import Derived.Test.YtfbmjlohdhogmaaDoorSegX
import Derived.Test.YtfbmjlohdhogmaaDoorLawI
import Derived.Test.YtfbmjlohdhogmaaDoorLawRule
namespace Go.Proofs.YtfbmjlohdhogmaaDoor
open Go.RowKit

theorem RdSU.belowB {w w' : World} {B : Nat} {ss : List Seg} (h : RdSU w B ss) (hb : Below B w w') : RdSU w' B ss := fun s hs => ⟨(h s hs).1.belowB (h s hs).2 hb, (h s hs).2⟩
theorem szInt64S_s (A : Option Addr) (n c : Nat) (_xs : List Int) (left : Int) (w : World) (hn : n ≤ 9223372036854775807) (hl : 0 ≤ left) (hl' : left ≤ 1000000000000) :
    Calls Tryd.prog 36 #[.slice A n c, .int .i64 left] w fun e w' => e = .returned (.int .i64 (szOf left n)) ∧ Below w.heap.size w w' :=
  (szInt64S_c A n c left w hn hl hl').mono fun _ _ ⟨he, hw⟩ => ⟨he, hw ▸ below_size⟩
theorem toInt64S_s (A : Option Addr) (n c : Nat) (xs : List Int) (w : World) (h : RdS w [sgI A n xs]) (hn : n ≤ 1000000000) :
    Calls Tryd.prog 39 #[.slice A n c] w fun e w' => ∃ g, e = .returned (.slice (some ⟨g, 0, none⟩) n n) ∧ WrS w' w.heap.size w'.heap.size [sgI (some ⟨g, 0, none⟩) n xs] ∧ Below w.heap.size w w' :=
  (toInt64S_c A n c xs w h.head (by omega)).mono fun _ _ ⟨he, hw, hb⟩ => ⟨_, he, WrS.one hw, hb⟩
theorem szRuleS_s (A : Option Addr) (n c : Nat) (_xs : List (Int × Int × Int)) (left : Int) (w : World) (hn : n ≤ 9223372036854775807) (hl : 0 ≤ left) (hl' : left ≤ 1000000000000) :
    Calls Tryd.prog 45 #[.slice A n c, .int .i64 left] w fun e w' => e = .returned (.int .i64 (szOf left n)) ∧ Below w.heap.size w w' := szRuleS_c A n c left w hn hl hl'
theorem toRuleS_s (A : Option Addr) (n c : Nat) (xs : List (Int × Int × Int)) (w : World) (h : RdS w [sgX enc3 3 A n xs]) (hn : n ≤ 1000000000) :
    Calls Tryd.prog 49 #[.slice A n c] w fun e w' => ∃ g, e = .returned (.slice (some ⟨g, 0, none⟩) n n) ∧ WrS w' w.heap.size w'.heap.size [sgX enc3 3 (some ⟨g, 0, none⟩) n xs] ∧ Below w.heap.size w w' :=
  (toRuleS_c A n c xs w h.head (by omega)).mono fun _ _ ⟨he, hw, hb⟩ => ⟨_, he, WrS.one hw, hb⟩
theorem eqInt64S_s (A : Option Addr) (n c : Nat) (xs : List Int) (A' : Option Addr) (n' c' : Nat) (w : World) (h : RdS w [sgI A n xs]) (h' : RdS w [sgI A' n' xs]) (hn : n ≤ 1000000000) :
    Calls Tryd.prog 44 #[.slice A n c, .slice A' n' c'] w fun e w' => e = .returned (.bool true) ∧ Below w.heap.size w w' := eqInt64S_t A A' n n' c c' xs w h.head h'.head (by omega)
theorem eqRuleS_s (A : Option Addr) (n c : Nat) (xs : List (Int × Int × Int)) (A' : Option Addr) (n' c' : Nat) (w : World) (h : RdS w [sgX enc3 3 A n xs]) (h' : RdS w [sgX enc3 3 A' n' xs]) (hn : n ≤ 1000000000) :
    Calls Tryd.prog 52 #[.slice A n c, .slice A' n' c'] w fun e w' => e = .returned (.bool true) ∧ Below w.heap.size w w' := eqRuleS_t A A' n n' c c' xs w h.head h'.head (by omega)
end Go.Proofs.YtfbmjlohdhogmaaDoor
