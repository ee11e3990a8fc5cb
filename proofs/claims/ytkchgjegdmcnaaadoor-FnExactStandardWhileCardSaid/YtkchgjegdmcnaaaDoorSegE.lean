/-
  The helpers of the laws at []Expr, in the form of rows.
-/
import Derived.Test.YtkchgjegdmcnaaaDoorSegI
import Derived.Test.YtkchgjegdmcnaaaDoorLawExX
namespace Go.Proofs.YtkchgjegdmcnaaaDoor
open Go.RowKit

theorem szExprS_s (A : Option Addr) (n c : Nat) (_xs : List (Int × Int)) (left : Int) (w : World) (hn : n ≤ 9223372036854775807) (hl : 0 ≤ left) (hl' : left ≤ 1000000000000) :
    Calls Tryd.prog 30 #[.slice A n c, .int .i64 left] w fun e w' => e = .returned (.int .i64 (szOf left n)) ∧ Below w.heap.size w w' := szExprS_c A n c left w hn hl hl'
theorem toExprS_s (A : Option Addr) (n c : Nat) (xs : List (Int × Int)) (w : World) (h : RdS w [sgX enc2 2 A n xs]) (hn : n ≤ 1000000000) :
    Calls Tryd.prog 35 #[.slice A n c] w fun e w' => ∃ g, e = .returned (.slice (some ⟨g, 0, none⟩) n n) ∧ WrS w' w.heap.size w'.heap.size [sgX enc2 2 (some ⟨g, 0, none⟩) n xs] ∧ Below w.heap.size w w' :=
  (toExprS_c A n c xs w h.head (by omega)).mono fun _ _ ⟨he, hw, hb⟩ => ⟨_, he, WrS.one hw, hb⟩
theorem eqExprS_s (A : Option Addr) (n c : Nat) (xs : List (Int × Int)) (A' : Option Addr) (n' c' : Nat) (w : World) (h : RdS w [sgX enc2 2 A n xs]) (h' : RdS w [sgX enc2 2 A' n' xs]) (hn : n ≤ 1000000000) :
    Calls Tryd.prog 42 #[.slice A n c, .slice A' n' c'] w fun e w' => e = .returned (.bool true) ∧ Below w.heap.size w w' := eqExprS_t A A' n n' c c' xs w h.head h'.head (by omega)
theorem markExprS_s (A : Option Addr) (n c : Nat) (xs : List (Int × Int)) (lo hi : Nat) (k0 : Int) (w : World) (h : WrS w lo hi [sgX enc2 2 A n xs]) (hn : n ≤ 1000000000) (h0 : 0 ≤ k0) (h1 : k0 ≤ 100000000000) :
    Calls Tryd.prog 26 #[.slice A n c, .int .i64 k0] w fun e w' => e = .returned (.int .i64 (k0 + (n * 2 : Nat))) ∧ WrS w' lo hi [⟨A, n * 2, (marks k0 (n * 2)).map i64⟩] ∧ KeepR lo hi w w' :=
  (markExprS_c A n c lo hi _ k0 w h.head (by omega) h0 (by omega)).mono fun _ _ ⟨he, hw, hk⟩ => ⟨he, WrS.one hw, hk⟩
end Go.Proofs.YtkchgjegdmcnaaaDoor
