/-
  A copy that tells its capacity.
-/
import Derived.Test.YtcbcjhfeidkeaaaC05r
namespace Go.Proofs.Ytcbcjhfeidkeaaa
open Go.RowKit

set_option maxRecDepth 100000 in
theorem cloneK_c (A : Option Addr) (n c : Nat) (ws : List Int) (w : World) (h : RdI w A n ws) (hn : n ≤ 1000000) :
    Calls Try.prog 89 #[.slice A n c] w fun e w' => ∃ A' cap, e = .returned (.slice A' n cap) ∧ n ≤ cap ∧ Wr w' w.heap.size w'.heap.size A' n (ws.map i64) ∧ Below w.heap.size w w' := by
  by_cases h0 : 0 < n
  · obtain ⟨hl, hc⟩ := h
    obtain ⟨ad, rfl, hab, hcs⟩ := hc h0
    have HL := Lib.hid hl
    have HC := Lib.hid (show ∀ j u, (ws.map i64)[j]? = some u → (w.alloc (.cells #[] 2)).cell? (ad.add j) = some u from fun j u hj => keepa _ (hcs j u hj))
    clear hl hc hcs
    have he : ∀ w, (binOp BinOp.eql 25 (Value.slice (some ad) n c) (Value.slice none 0 0)).run Try.prog w = .ok (.bool false) w := fun w => by kernel_rfl
    go_enter Try.func89, Try.ntmps89
    go_wp2_with (at_builtin; refine wp_app (by rfl) _ _ 25 2 (.int .i64 0) 1 8 (by rfl) Try.underlying25 info_i64 rfl (by omega) w.heap.size (some ⟨w.heap.size, 0, none⟩) 0 0 [] (by rfl) (by exact Own.lit (Nat.le_refl _)) ad n c (ws.map i64) (by rfl) h0 (by rw [HL.out, Nat.mul_one]) (by exact HC.out) (by intro u hu; obtain ⟨y, _, rfl⟩ := List.mem_map.1 hu; rfl) (by omega) (by omega) (by simp) ?_; intro g' cap w2 own2 hb2 hk2 hg2 hz2)
    rw [Nat.zero_add, List.nil_append] at own2
    have O2 := Lib.hid own2; have B2 := Lib.hid ((below_size.alloc (Nat.le_refl _) (.cells #[] 2)).trans hb2)
    clear own2 hb2 hk2 hg2 hz2
    go_wp2_with fail
    go_ret
    exact ⟨some ⟨g', 0, none⟩, cap, by simp, by have := O2.out.cap; omega, by have := O2.out.wr; exact this, B2.out⟩
  · obtain rfl : n = 0 := by omega
    have hws : ws = [] := List.length_eq_zero_iff.1 h.len
    subst hws
    clear h h0
    cases A with
    | none =>
      have he : ∀ w, (binOp BinOp.eql 25 (Value.slice none 0 c) (Value.slice none 0 0)).run Try.prog w = .ok (.bool true) w := fun w => by kernel_rfl
      go_enter Try.func89, Try.ntmps89
      go_wp2_with fail
      go_ret
      exact ⟨none, 0, by rfl, Nat.le_refl _, Wr.nil, below_size⟩
    | some ad =>
      have he : ∀ w, (binOp BinOp.eql 25 (Value.slice (some ad) 0 c) (Value.slice none 0 0)).run Try.prog w = .ok (.bool false) w := fun w => by kernel_rfl
      go_enter Try.func89, Try.ntmps89
      go_wp2_with (at_builtin; refine wp_app0 (by rfl) _ _ 25 2 (.int .i64 0) 1 8 (by rfl) Try.underlying25 info_i64 (some ⟨w.heap.size, 0, none⟩) 0 0 (by rfl) (by omega) (some ad) c (by rfl) ?_)
      go_ret
      exact ⟨_, _, by rfl, Nat.zero_le _, Wr.nil, below_size.alloc (Nat.le_refl _) _⟩
end Go.Proofs.Ytcbcjhfeidkeaaa
