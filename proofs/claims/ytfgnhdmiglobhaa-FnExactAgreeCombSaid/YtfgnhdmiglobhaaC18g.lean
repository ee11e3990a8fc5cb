/-
  Contracts of chapter 18: AgreeComb of the reference.
-/
import Derived.Test.YtfgnhdmiglobhaaC18e
namespace Go.Proofs.Ytfgnhdmiglobhaa
open Go.RowKit

/-- the variables from a number on -/
def upV (m : Int) (n : Nat) : List Int := (List.range n).map fun (i : Nat) => m + (i : Int)
theorem upV_succ (m : Int) (n : Nat) : upV m (n + 1) = upV m n ++ [m + (n : Int)] := by simp [upV, List.range_succ]
theorem upV_len (m : Int) (n : Nat) : (upV m n).length = n := by simp [upV]
def stX : Option (List (Int × Int) × Nat × Bool) → Option (List (Int × Int))
  | some (t, _, true) => some t
  | _ => none
/-- the normal term of an application, if there is one -/
def stC (c : List (Int × Int)) (vs : List Int) (b : Nat) : Option (List (Int × Int)) := if validC (appV c vs) = true then stX (runC b (appV c vs) 0) else none
def agX : Option (List (Int × Int)) → Option (List (Int × Int)) → Bool × Int
  | some x, some y => (decide (x = y), 0)
  | _, _ => (false, 5)
def agM (a b : List (Int × Int)) : Int := topI (varsC a ++ varsC b)
def agR (a b : List (Int × Int)) (n budget : Int) : Bool × Int :=
  if (validC a && validC b) = false then (false, 1) else if (inB budget 1 20000 && inB n 0 8) = false then (false, 2)
  else agX (stC a (upV (agM a b) n.toNat) budget.toNat) (stC b (upV (agM a b) n.toNat) budget.toNat)
theorem varsC_in {c : List (Int × Int)} (h : c.all okC = true) {v : Int} (hv : v ∈ varsC c) : 0 ≤ v ∧ v ≤ 399 := by
  obtain ⟨x, hx, hx2⟩ := List.mem_filterMap.1 hv
  have := List.all_eq_true.1 h x hx
  split at hx2
  · injection hx2 with hx2
    subst hx2
    simp only [okC, Bool.and_eq_true] at this
    exact inB_t this.1.2
  · cases hx2
theorem foldPut_len : ∀ (vs acc : List Int), (vs.foldl (fun out v => putS v out) acc).length ≤ vs.length + acc.length
  | [], acc => by simp
  | v :: vs, acc => by
    have h1 := foldPut_len vs (putS v acc)
    have h2 := putS_len (v := v) (l := acc)
    rw [List.foldl_cons, List.length_cons]; omega
theorem varsC_len (c : List (Int × Int)) : (varsC c).length ≤ c.length := List.length_filterMap_le _ _
theorem namesC_len (c : List (Int × Int)) : (namesC c).length ≤ c.length := by
  have h1 := foldPut_len (varsC c) []
  have h2 := varsC_len c
  unfold namesC
  simp at h1; omega
theorem agM_in {a b : List (Int × Int)} (ha : a.all okC = true) (hb : b.all okC = true) : 0 ≤ agM a b ∧ agM a b ≤ 400 := by
  constructor
  · exact ((foldMax_le (varsC a ++ varsC b) 0 (agM a b)).1 (Int.le_refl _)).1
  · refine (foldMax_le _ 0 _).2 ⟨by omega, fun v hv => ?_⟩
    rcases List.mem_append.1 hv with h | h
    · have := varsC_in ha h; omega
    · have := varsC_in hb h; omega
theorem validC_long {c : List (Int × Int)} (h : 400 < c.length) : validC c = false := by
  rw [validC, show inB c.length 1 400 = false from inB_not (by omega)]; rfl
/-- variables as terms of the call's own, in a slice that may grow -/
def ArgsAt (w : World) (B : Nat) (G : Option Addr) (n cc : Nat) (ps : List (Nat × Int)) : Prop := Own w B 24 1 G n cc (ps.map fun p => .slice (some ⟨p.1, 0, none⟩) 1 1) ∧ ∀ p ∈ ps, Blk w p.1 50 #[.int .i64 4, .int .i64 p.2]
theorem ArgsAt.below {w w' : World} {B : Nat} {G : Option Addr} {n cc : Nat} {ps : List (Nat × Int)} (h : ArgsAt w B G n cc ps) (hb : Below w.heap.size w w') : ArgsAt w' B G n cc ps := ⟨h.1.keep hb, fun p hp => (h.2 p hp).keep hb⟩
def argIts (ps : List (Nat × Int)) : List ItV := ps.map fun p => itV1 p.1 p.2
theorem argIts_sum : ∀ ps : List (Nat × Int), sumV (argIts ps) = ps.length
  | [] => rfl
  | p :: ps => by
    show 1 + sumV (argIts ps) = ps.length + 1
    rw [argIts_sum ps]; omega
theorem argIts_vs : ∀ ps : List (Nat × Int), (argIts ps).flatMap ItV.vs = ((ps.map (·.2)).map varT).flatMap enc2
  | [] => rfl
  | p :: ps => by
    have := argIts_vs ps
    simp only [argIts, List.map_cons, List.flatMap_cons] at *
    rw [this]; rfl
theorem ArgsAt.rdV {w : World} {B : Nat} {G : Option Addr} {n cc : Nat} {ps : List (Nat × Int)} (h : ArgsAt w B G n cc ps) : RdV w 2 G n (argIts ps) := by
  refine ⟨?_, fun t ht => ?_, fun t ht => ?_⟩
  · have := h.1.wr.rd
    simp only [argIts, List.map_map]
    exact this
  · obtain ⟨p, hp, rfl⟩ := List.mem_map.1 ht
    exact (itV1_ok (h.2 p hp)).1
  · obtain ⟨p, hp, rfl⟩ := List.mem_map.1 ht
    exact (itV1_ok (h.2 p hp)).2
theorem ArgsAt.len {w : World} {B : Nat} {G : Option Addr} {n cc : Nat} {ps : List (Nat × Int)} (h : ArgsAt w B G n cc ps) : ps.length = n := by have := h.1.1; simpa using this
theorem ArgsAt.push {w w' : World} {B : Nat} {G : Option Addr} {n cc g' cap : Nat} {ps : List (Nat × Int)} {v : Int} (h : ArgsAt w B G n cc ps) {w2 : World} (h2 : w2 = (w.alloc (.cells #[.int .i64 4, .int .i64 v] 50)).alloc (.cells #[.slice (some ⟨w.heap.size, 0, none⟩) 1 1] 24))
    (own : Own w' B 24 1 (some ⟨g', 0, none⟩) (n + 1) cap ((ps.map fun p => Value.slice (some ⟨p.1, 0, none⟩) 1 1) ++ [.slice (some ⟨w.heap.size, 0, none⟩) 1 1])) (hk : ∀ b, b < w2.heap.size → (∀ ad', G = some ad' → ad'.block ≠ b) → w'.heap[b]? = w2.heap[b]?) :
    ArgsAt w' B (some ⟨g', 0, none⟩) (n + 1) cap (ps ++ [(w.heap.size, v)]) := by
  have hb2 : Below w.heap.size w w2 := by rw [h2]; exact (below_size.alloc (Nat.le_refl _) _).alloc (by simp) _
  refine ⟨by simpa using own, fun p hp => ?_⟩
  rcases List.mem_append.1 hp with hp | hp
  · have hq := (h.2 p hp).keep hb2
    exact hq.of_block (hk _ hq.lt fun ad' e => h.1.ne_ (h.2 p hp) (by decide) ad' e)
  · rw [List.mem_singleton] at hp; subst hp
    have hq : Blk w2 w.heap.size 50 #[.int .i64 4, .int .i64 v] := by rw [h2]; exact (Blk.new w _ _).alloc _
    exact hq.of_block (hk _ hq.lt fun ad' e => by have := (h.1.block e).2.1; omega)
theorem l00Max_c (a b : Int) (w : World) : Calls Try.prog 39 #[.int .i64 a, .int .i64 b] w fun e w' => e = .returned (.int .i64 (max a b)) ∧ w = w' := by
  by_cases h : b < a
  · have g : decide (b < a) = true := by simpa using h
    have e : max a b = a := by omega
    rw [e]
    go_enter Try.func39, Try.ntmps39
    go_wp2_with fail
    go_ret
    exact ⟨rfl, rfl⟩
  · have g : decide (b < a) = false := by simpa using h
    have e : max a b = b := by omega
    rw [e]
    go_enter Try.func39, Try.ntmps39
    go_wp2_with fail
    go_ret
    exact ⟨rfl, rfl⟩
/-- a normal term, or none -/
def SetOut (S : Option (List (Int × Int))) (w : World) (e : Ending) (w' : World) : Prop := Below w.heap.size w w' ∧ match S with
  | none => ∃ A N cap, e = .returned (.tuple #[.slice A N cap, .bool false])
  | some t => ∃ A N cap, e = .returned (.tuple #[.slice A N cap, .bool true]) ∧ Rd2 w' A N t ∧ N ≤ 400
set_option maxHeartbeats 1000000 in
theorem l18Settled_c (A : Option Addr) (n c : Nat) (xs : List (Int × Int)) (G : Option Addr) (m mc : Nat) (ps : List (Nat × Int)) (vs : List Int) (b : Nat) (S : Option (List (Int × Int))) (w : World) (h : Rd2 w A n xs) (hG : RdV w 2 G m (argIts ps)) (hvs : ps.map (·.2) = vs) (hn : n ≤ 400) (hm : m ≤ 100) (hb : b ≤ 100000) (hS : stC xs vs b = S) :
    Calls Try.prog 41 #[.slice A n c, .slice G m mc, .int .i64 b] w (SetOut S w) := by
  have hpl : ps.length = m := by have := hG.len; simpa [argIts] using this
  have hvl : vs.length = m := by rw [← hvs, List.length_map, hpl]
  have H := Lib.hid h; have HG := Lib.hid hG; have HS := Lib.hid hS
  have HA := Lib.hid (l18Apply_c A n c xs G m mc (m + n + m) (argIts ps) w h hG (by omega) (by omega) (by rw [argIts_sum, hpl]; omega) (by rw [argIts_sum, hpl]))
  have HF := Lib.hid (show (List.replicate m ((0 : Int), (0 : Int))).flatMap enc2 ++ xs.flatMap enc2 ++ (argIts ps).flatMap ItV.vs = (appV xs vs).flatMap enc2 by
    rw [argIts_vs, hvs, appV, hvl, List.flatMap_append, List.flatMap_append])
  clear h hG hS hvs hpl hvl
  go_enter Try.func41, Try.ntmps41
  go_wp2_with fail
  refine HA.out.mono ?_
  rw [HF.out]
  rintro e w1 ⟨A1, c1, rfl, hw1, hc1, hb1⟩
  have W1 := Lib.hid (show Rd2 w1 A1 (m + n + m) (appV xs vs) from hw1.rd); have B1 := Lib.hid hb1
  clear hw1 hb1 HA HF
  obtain ⟨T, hT⟩ : ∃ T, appV xs vs = T := ⟨_, rfl⟩
  have HS' := Lib.hid (show (if validC T = true then stX (runC b T 0) else none) = S by rw [← HS.out, stC, hT])
  rw [hT] at W1
  clear hT HS
  cases hv : validC T
  · have HV := Lib.hid hv
    have HG' := Lib.hid (show none = S by rw [← HS'.out, hv]; rfl)
    clear hv HS'
    go_wp2_with fail
    refine (l12Comb_c _ _ _ T false _ W1.out (by omega) HV.out).mono ?_
    rintro e w2 ⟨rfl, hb2⟩
    go_wp2_with fail
    go_ret2
    rw [← HG'.out]
    exact ⟨below_chain B1.out B1.out.size hb2, _, _, _, rfl⟩
  · have HV := Lib.hid hv
    obtain ⟨X, hX⟩ : ∃ X, runC b T 0 = X := ⟨_, rfl⟩
    have HX := Lib.hid hX
    have HG' := Lib.hid (show stX X = S by rw [← HS'.out, hv, if_pos rfl, hX])
    clear hv HS' hX
    go_wp2_with fail
    refine (l12Comb_c _ _ _ T true _ W1.out (by omega) HV.out).mono ?_
    rintro e w2 ⟨rfl, hb2⟩
    have B2 := Lib.hid (below_chain B1.out B1.out.size hb2); have W2 := Lib.hid (W1.out.below hb2)
    clear hb2
    go_wp2_with fail
    refine (l12CombRun_c _ _ c1 T b X _ W2.out HV.out hb HX.out).mono ?_
    intro e w3 h3
    have HH := Lib.hid h3
    clear h3
    cases X with
    | none =>
      obtain ⟨he, hb3⟩ := HH.out
      subst he
      have HF := Lib.hid (show none = S from HG'.out)
      have B3 := Lib.hid (below_chain B2.out B2.out.size hb3)
      clear hb3
      go_wp2_with fail
      go_ret2
      rw [← HF.out]
      exact ⟨B3.out, _, _, _, rfl⟩
    | some x =>
      obtain ⟨o, s, q⟩ := x
      obtain ⟨A3, N3, c3, he, hw3, hl3, hc3, hb3⟩ := HH.out
      subst he
      have W3 := Lib.hid (show Rd2 w3 A3 N3 o from hw3.rd); have B3 := Lib.hid (below_chain B2.out B2.out.size hb3)
      have hv3 := (validC_end (runC_valid HV.out HX.out).1).2.2
      rw [hl3] at hv3
      clear hw3 hb3 HH
      cases q
      · have HF := Lib.hid (show none = S from HG'.out)
        go_wp2_with fail
        go_ret2
        rw [← HF.out]
        exact ⟨B3.out, _, _, _, rfl⟩
      · have HF := Lib.hid (show some o = S from HG'.out)
        go_wp2_with fail
        go_ret2
        rw [← HF.out]
        exact ⟨B3.out, _, _, _, rfl, W3.out, hv3⟩
end Go.Proofs.Ytfgnhdmiglobhaa
