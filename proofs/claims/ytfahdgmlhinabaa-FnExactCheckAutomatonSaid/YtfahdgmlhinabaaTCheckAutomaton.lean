/-
  FnExactCheckAutomaton holds: for every input the law returns true and each argument reads behind the call as it read before.
-/
import Derived.Test.YtfahdgmlhinabaaRows
import Derived.Test.YtfahdgmlhinabaaFCheckAutomaton
import Derived.Test.YtfahdgmlhinabaaOpenS
import Derived.Test.YtfahdgmlhinabaaOpenII
import Derived.Test.YtfahdgmlhinabaaOpen
import Derived.WalkKit
import Derived.ProofKit
import Derived.OpenShut
import Derived.ShutString
namespace Go.Proofs.Ytfahdgmlhinabaa.fnExactCheckAutomaton
open Go.ChangeShapes Go.WideShapes Go.ChangeAt Go.RowKit
open Go.ChangeMaps (open_string shut_string)
theorem own : ownKnob Try.prog.godebug = none := by kernel_rfl
theorem laidOut : laidOutB Try.prog = true := by kernel_rfl
set_option maxRecDepth 100000 in
theorem lifted (os : Os) (started : os.Started) (H : Type) (enc : TypeId × Value → H) :
    ReturnsInHanded {} Try.checked os 7 .any (Rows.fnExactCheckAutomatonSpec.pre6 enc Try.prog Try.f7 Rows.fnExactCheckAutomatonRow.domain false) (Rows.fnExactCheckAutomatonSpec.post enc Try.prog Try.f7 false true false false) := by
  refine returnsInHanded_of_change (C := Try.checked) own started (by kernel_rfl) Try.func7
    (ChangeSpec.witness6 (enc := enc) (C := Try.checked) false ⟨#[], #[.agg #[.int .i64 0, .int .i64 0, .slice none 0 0], .agg #[.int .i64 0, .slice none 0 0, .slice none 0 0]], []⟩ 8 (by kernel_rfl) (by kernel_rfl) (by kernel_rfl) (by kernel_rfl)) ?_
  intro W base args ds gs before hval0 hW hcnd _
  have hval : ∀ (j : Nat) t v, Try.f7.params[j]? = some t → args[j]? = some v → Value.okWide Try.prog W .any base t v := hval0
  have hW' := hW
  obtain ⟨p, q, hA0, hV, rfl, hfz, hnd⟩ := hW
  have hA : DataW.TrodAll enc Try.prog W 0 (fun _ => true) true Try.f7.params.toList args.toList ds p := hA0
  rw [Try.params7] at hA hval
  obtain ⟨v0, vs0, d0, ds0, p0, q0, hargs, rfl, rfl, h0, r0⟩ := trodAll_cons hA
  obtain ⟨v1, vs1, d1, ds1, p1, q1, rfl, rfl, rfl, h1, r1⟩ := trodAll_cons r0
  obtain ⟨rfl, rfl, rfl⟩ := trodAll_nil r1
  obtain rfl : args = #[v0, v1] := by cases args; simp_all
  obtain ⟨rfl, rfl⟩ := trodVars_none hV
  have k0 := h0
  have lt0 : ∀ x ∈ p0, x.block < W.heap.size := by obtain ⟨m, hm⟩ := k0; exact DataW.trod_lt m _ _ _ hm
  have k1 := h1
  have lt1 : ∀ x ∈ p1, x.block < W.heap.size := by obtain ⟨m, hm⟩ := k1; exact DataW.trod_lt m _ _ _ hm
  obtain ⟨sy0, st0, A0, n0, c0, xs0, rfl, r0f, b0, o0, oq0, oo0⟩ := open_Machine (hval 0 24 v0 rfl rfl) h0
  obtain ⟨kd1, A1, n1, c1, xs1, B1, m1, d1, its1, rfl, r1f, b1, bb1, bi1, o1, oo1⟩ := open_Proof (hval 1 66 v1 rfl rfl) h1
  clear hA0 hval0
  refine (walkCheckAutomaton sy0 st0 A0 n0 c0 xs0 kd1 A1 n1 c1 xs1 B1 m1 d1 its1 W r0f b0 o0 oq0 oo0 r1f b1 bb1 bi1 o1 oo1).mono fun e W' ⟨he, bel⟩ => ?_
  subst he
  exact ⟨_, rfl, _, _, _, [], _, [], hW', trodAll_mk1 (shut_bool Try.underlying4 _), (trodAll_cons_mk (Below.trod laidOut (by kernel_rfl) (of_decide_eq_true (by kernel_rfl)) k0 bel lt0) (trodAll_cons_mk (Below.trod laidOut (by kernel_rfl) (of_decide_eq_true (by kernel_rfl)) k1 bel lt1) trodAll_mk0)), rfl, bel.frame _, fun h => by cases h⟩
theorem named : Try.pinned.checked.prog.funcNamed Rows.fnExactCheckAutomatonRow.func = some 7 := by kernel_rfl
theorem closed : joinedFacts Try.pinned.checked.prog 7 Try.f7 Rows.fnExactCheckAutomatonSpec Rows.fnExactCheckAutomatonRow = true := by kernel_rfl
theorem inst : Try.f7.isInstance Try.pinned.checked.prog Rows.fnExactCheckAutomatonRow.origin Rows.fnExactCheckAutomatonRow.targs := of_decide_eq_true (by kernel_rfl)
theorem wrap : Try.f7.isWrapper Try.pinned.checked.prog Rows.fnExactCheckAutomatonRow.wrapper Rows.fnExactCheckAutomatonRow.mainSum := by unfold Func.isWrapper; first | (rw [if_pos (by decide +kernel)]; kernel_rfl) | (rw [if_neg (by decide +kernel)]; exact ⟨rfl, rfl⟩)
theorem over : Rows.fnExactCheckAutomatonRow.holds Try.pinned (OpenSpec.ofChange Rows.fnExactCheckAutomatonSpec) :=
  OpenClaim.holds_of_wide 7 Try.f7 rfl rfl rfl rfl rfl rfl rfl ⟨rfl, rfl, rfl, rfl, rfl⟩ rfl rfl rfl rfl rfl named Try.func7 closed inst wrap
    (fun os started H enc _ => lifted os started H enc)
theorem proved : Rows.FnExactCheckAutomatonSaid := over
#print axioms proved
end Go.Proofs.Ytfahdgmlhinabaa.fnExactCheckAutomaton
