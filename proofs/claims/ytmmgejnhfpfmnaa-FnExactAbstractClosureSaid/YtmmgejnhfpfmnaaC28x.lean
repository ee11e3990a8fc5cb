/-
  Contracts of chapter 28 (automata): AbstractClosure of the reference.
-/
import Derived.Test.YtmmgejnhfpfmnaaC28u
namespace Go.Proofs.Ytmmgejnhfpfmnaa
open Go.RowKit

def acO (st sy sr : Int) (k : Nat) (o : Option (List Nd)) : List (List Int) × Int := match o with | none => ([], 5) | some l => ((sortN st sy sr l k).map ndL, 0)
/-- what AbstractClosure answers -/
def acR (sy st : Int) (rs : List Rule3) (sl : Int) (xl : List Int) (sr : Int) (xr : List Int) : List (List Int) × Int :=
  if readyB sy st rs sl xl sr xr then acO st sy sr (sl * st * sy * sr).toNat (clR rs sy xl xr) else ([], 1)
/-- lists of numbers of the call's own and a code -/
def IISOut (R : List (List Int) × Int) (w : World) (e : Ending) (w' : World) : Prop :=
  ∃ A n c its, e = .returned (.tuple #[.slice A n c, .int .i64 R.2]) ∧ WrS w' w.heap.size w'.heap.size (sgII A n its) ∧ (n ≤ 3000000 ∧ (∀ t ∈ its, t.n ≤ 4) ∧ sumN its ≤ 12000000 ∧ its.map It.xs = R.1) ∧ Below w.heap.size w w'
theorem sumN_by {B : Nat} : ∀ {its : List It}, (∀ t ∈ its, t.n ≤ B) → sumN its ≤ its.length * B
  | [], _ => by simp [sumN]
  | t :: l, h => by
    have h1 := h t (by simp)
    have h2 := sumN_by (its := l) fun u hu => h u (by simp [hu])
    rw [sumN, List.length_cons, Nat.add_mul]; omega
theorem IISOut.bad {w w' : World} (k : Int) (h : Below w.heap.size w w') : IISOut ([], k) w (.returned (.tuple #[.slice none 0 0, .int .i64 k])) w' :=
  ⟨none, 0, 0, [], rfl, ⟨fun s hs => by simp [sgII] at hs; subst hs; exact Wr.nil, by simp [sgII]⟩, ⟨by omega, fun t ht => by (cases ht), by simp [sumN], rfl⟩, h⟩
set_option maxHeartbeats 2000000 in
theorem sAbstractClosure_c (sy st : Int) (A : Option Addr) (n cp : Nat) (rs : List Rule3) (sl : Int) (Al : Option Addr) (nl cl : Nat) (xl : List Int) (sr : Int) (Ar : Option Addr) (nr cr : Nat) (xr : List Int) (w : World)
    (h : RdS w [sgX enc3 3 A n rs]) (h' : RdI w Al nl xl) (h'' : RdI w Ar nr xr) (hn : n ≤ 1000000000) (hn' : nl ≤ 1000000000) (hn'' : nr ≤ 1000000000) :
    Calls Try.prog 21 #[.agg #[.int .i64 sy, .int .i64 st, .slice A n cp], .agg #[.int .i64 sl, .slice Al nl cl], .agg #[.int .i64 sr, .slice Ar nr cr]] w (IISOut (acR sy st rs sl xl sr xr) w) := by
  replace h : Rd3 w A n rs := h.head
  obtain ⟨w0, hw0⟩ : ∃ w0, ((w.alloc (.cells #[i64 sy, i64 st, .slice A n cp] 34)).alloc (.cells #[i64 sl, .slice Al nl cl] 49)).alloc (.cells #[i64 sr, .slice Ar nr cr] 49) = w0 := ⟨_, rfl⟩
  obtain ⟨b0, b1, b2⟩ := boxes3 w #[i64 sy, i64 st, .slice A n cp] #[i64 sl, .slice Al nl cl] #[i64 sr, .slice Ar nr cr] 34 49 49
  rw [hw0] at b0 b1 b2
  have B0 := Lib.hid (show Below w.heap.size w w0 by rw [← hw0]; exact ((below_size.alloc (Nat.le_refl _) _).alloc (by simp) _).alloc (by simp; omega) _)
  have M0 := Lib.hid (show MachP w0 w.heap.size sy st A n cp rs from ⟨b0.cell 0, b0.cell 1, b0.cell 2, h.below B0.out⟩)
  have L0 := Lib.hid (show DfaP w0 (w.heap.size + 1) sl Al nl cl xl from ⟨b1.cell 0, b1.cell 1, h'.below B0.out⟩)
  have R0 := Lib.hid (show DfaP w0 (w.heap.size + 1 + 1) sr Ar nr cr xr from ⟨b2.cell 0, b2.cell 1, h''.below B0.out⟩)
  have hz0 := B0.out.size
  obtain ⟨q, hq⟩ : ∃ q, readyB sy st rs sl xl sr xr = q := ⟨_, rfl⟩
  have HQ := Lib.hid hq
  obtain ⟨R, hR⟩ : ∃ R, acR sy st rs sl xl sr xr = R := ⟨_, rfl⟩
  have HR := Lib.hid hR
  rw [hR]
  clear h h' h'' hR b0 b1 b2
  go_enter Try.func21, Try.ntmps21
  go_wp2_with fail
  clear hw0
  refine (l28Ready_c _ sy st A n cp rs _ sl Al nl cl xl _ sr Ar nr cr xr q _ (by exact M0.out) (by exact L0.out) (by exact R0.out) hn hn' hn'' hq).mono ?_
  rintro e w1 ⟨rfl, hb⟩
  have E1 := Lib.hid hb
  clear hb hq
  cases q
  · have HE := Lib.hid (show R = ([], 1) by rw [← HR.out, acR, HQ.out]; rfl)
    go_wp2_with fail
    go_ret2
    rw [HE.out]
    exact IISOut.bad 1 (below_chain B0.out hz0 E1.out)
  · obtain ⟨hm, hdl, hdr⟩ := readyB_parts HQ.out
    obtain ⟨kz, hkz⟩ : ∃ kz : Nat, (kz : Int) = sl * st * sy * sr := by
      obtain ⟨_, _, f3⟩ := size_bd hdl.stt (machB_bd hm).2.1 (machB_bd hm).1 hdr.stt
      exact ⟨(sl * st * sy * sr).toNat, Int.toNat_of_nonneg (by omega)⟩
    obtain ⟨o, ho⟩ : ∃ o, clR rs sy xl xr = o := ⟨_, rfl⟩
    have HE := Lib.hid (show R = acO st sy sr kz o by
      rw [← HR.out, acR, HQ.out, ← hkz, Int.toNat_natCast, ho]; rfl)
    have hc := l28Closure_c _ sy st A n cp rs _ sl Al nl cl xl _ sr Ar nr cr xr kz w1 (M0.out.below E1.out) (L0.out.below E1.out) (R0.out.below E1.out) hm hdl hdr hkz
    rw [ho] at hc
    have HC := Lib.hid hc
    clear hc hm hdl hdr hkz ho
    go_wp2_with fail
    refine HC.out.mono ?_
    rintro e w2 ⟨A', n', c', its, rfl, hS, hn3, hi4, hx, hb⟩
    have E2 := Lib.hid (below_chain (below_chain B0.out hz0 E1.out) (by have := E1.out.size; omega) hb)
    have HS := Lib.hid hS; have HI := Lib.hid hi4; have HX := Lib.hid hx
    have hz1 := E1.out.size
    clear hS hi4 hx hb
    cases o with
    | none =>
      go_wp2_with fail
      go_ret2
      rw [show R = ([], 5) from HE.out]
      exact IISOut.bad 5 E2.out
    | some l =>
      go_wp2_with fail
      go_ret2
      rw [HE.out]
      have hl := RdII.len HS.out.rd
      have h4 : ∀ t ∈ its, t.n ≤ 4 := fun t ht => Nat.le_of_eq (HI.out t ht)
      have hsum := sumN_by h4
      exact ⟨A', n', c', its, rfl, HS.out.wider (by omega) (Nat.le_refl _), ⟨hn3, h4, by omega, HX.out⟩, E2.out⟩
end Go.Proofs.Ytmmgejnhfpfmnaa
