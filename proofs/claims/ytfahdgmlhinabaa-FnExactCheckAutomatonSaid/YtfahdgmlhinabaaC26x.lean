/-
  Contracts of chapter 26: the nodes of a size at which a machine halts.
-/
import Derived.Test.YtfahdgmlhinabaaC26s
import Derived.Test.YtfahdgmlhinabaaEqI
import Derived.Test.YtfahdgmlhinabaaRep
namespace Go.Proofs.Ytfahdgmlhinabaa
open Go.RowKit

/-- a node of a size at which a machine halts -/
def startN (n : Nat) (q c : Int) : List Int := ((n : Int) / 2 :: q :: List.replicate n (-1)).set (2 + n / 2) c
def startsG (n : Nat) (sy : Int) (rs : List Rule3) : List (List Int) := (freeGo 0 rs).map fun x => startN n (x / sy) (x % sy)
def startsR (sy st : Int) (rs : List Rule3) (n : Int) : List (List Int) × Int := if machB sy st rs then (if inB n 1 9 then (startsG n.toNat sy rs, 0) else ([], 2)) else ([], 1)
theorem startN_len (n : Nat) (q c : Int) : (startN n q c).length = n + 2 := by simp [startN]
theorem segNode_start (n : Nat) (q c : Int) (hn : 1 ≤ n) : segNode (List.replicate (n + 2) (-1)) ((n : Int) / 2) q c = startN n q c := by
  unfold segNode startN
  rw [List.length_replicate, if_pos (by rw [inB_iff]; omega), show (2 + (n : Int) / 2).toNat = 2 + n / 2 by omega]
  simp [List.replicate_succ]
theorem WrS.stay {w w' : World} {lo hi : Nat} {ss : List Seg} (h : WrS w lo hi ss) (hk : ∀ b, lo ≤ b → b < hi → b < w.heap.size → w'.heap[b]? = w.heap[b]?) (hz : w.heap.size ≤ w'.heap.size) : WrS w' lo hi ss :=
  ⟨fun s hs => (h.each s hs).move (fun ad hn e => by
    obtain ⟨ad', e', h1, h2, h3, _⟩ := (h.each s hs).2 hn
    rw [e] at e'; injection e' with e'; subst e'; exact hk _ h1 h2 h3) hz (Nat.le_refl _), h.apart⟩
theorem Own.lit2 {w : World} {B : Nat} {e : TypeId} {u v : Value} (hB : B ≤ w.heap.size) : Own (w.alloc (.cells #[u, v] e)) B e 1 (some ⟨w.heap.size, 0, none⟩) 2 2 [u, v] :=
  ⟨by simp, .inr ⟨w.heap.size, 2, #[u, v], rfl, hB, heap_alloc_new w _, by omega, by simp [maxLen], by simp, by simp⟩⟩
/-- the i-th of the halting partial configurations -/
theorem pt_at {ps : List Pt} {sy : Int} {F : List Int} {i : Nat} {t : Pt} {x : Int} (hp : ps.map datP = F.map fun x => (x / sy, 0, [x % sy])) (ht : ps[i]? = some t) (hx : F[i]? = some x) : t.st = x / sy ∧ t.xs = [x % sy] := by
  have h := congrArg (fun l => l[i]?) hp
  simp only [List.getElem?_map, ht, hx, Option.map_some, datP] at h
  injection h with h
  simp only [Prod.mk.injEq] at h
  exact ⟨h.1, h.2.2⟩
set_option maxHeartbeats 4000000 in
set_option maxRecDepth 100000 in
theorem l26Starts_c (g : Nat) (sy st : Int) (A : Option Addr) (nr cp : Nat) (rs : List Rule3) (n : Nat) (w : World) (h : MachP w g sy st A nr cp rs) (hsy : 2 ≤ sy ∧ sy ≤ 6) (hnr : nr ≤ 10000) (hn : 1 ≤ n ∧ n ≤ 9) :
    Calls Try.prog 70 #[.pointer (some ⟨g, 0, none⟩), .int .i64 n] w (IIOut (startsG n sy rs) w) := by
  have HL := Lib.hid h.rd.len
  have H := Lib.hid h; clear h
  obtain ⟨F, hF⟩ : ∃ F, freeGo 0 rs = F := ⟨_, rfl⟩
  have HFN := Lib.hid (show F.length ≤ nr by rw [← hF, ← HL.out]; exact freeGo_len rs 0)
  have HR := Lib.hid (show startsG n sy rs = F.map fun x => startN n (x / sy) (x % sy) by rw [startsG, hF])
  obtain ⟨R, hR⟩ : ∃ R, startsG n sy rs = R := ⟨_, rfl⟩
  rw [hR] at HR ⊢
  have vk : IntKind.i64.wrap (2 + (n : Int) / 2) = ((2 + n / 2 : Nat) : Int) := (IntWalk.i64_in _ (by omega)).trans (by omega)
  clear hR
  go_enter Try.func70, Try.ntmps70
  go_wp2_with fail
  refine (l26Halting_c g sy st A nr cp rs _ (by exact H.out.below (below_size.alloc (Nat.le_refl _) _)) hsy hnr).mono ?_
  rintro e w1 ⟨AF, f, cf, ps, rfl, hw, hp, hb⟩
  have HP := Lib.hid (show ps.map datP = F.map fun x => (x / sy, 0, [x % sy]) by rw [hp.2.2.2, hGo_free, hF])
  have hfl : f = F.length := by have h1 := RdPS.len hw.rd; have h2 := congrArg List.length HP.out; simp only [List.length_map] at h2; omega
  have WF := Lib.hid (show WrS w1 (w.heap.size + 1) w1.heap.size (sgPS AF f ps) by have := hw; rwa [World.size_alloc] at this)
  have E1 := Lib.hid ((below_size.alloc (Nat.le_refl _) _).trans (hb.mono (by simp)))
  have O1 := Lib.hid (OwnS.nil (Own.keep (Own.litK (k := 1) (w := w) (B := w.heap.size) (e := 25) (Nat.le_refl _)) hb))
  have HFL := Lib.hid hfl
  have hfn : f ≤ nr := by rw [hfl]; exact HFN.out
  have hw1 := E1.out.size
  have hw2 := hb.size
  rw [World.size_alloc] at hw2
  clear hw hb hp hfl hF
  go_wp2_with fail
  go_loopw [5, 7] (fun sv iv wr => ∃ (i : Nat) (O : Option Addr) (oc : Nat) (its : List It), i ≤ f ∧ iv = .int .i64 i ∧ sv = .slice O i oc ∧ Hid (its.length = i) ∧ Hid (its.map It.xs = (F.take i).map fun x => startN n (x / sy) (x % sy)) ∧ Hid (∀ t ∈ its, t.n ≤ 11) ∧
    Hid (OwnS wr w.heap.size 25 1 O i oc (its.map hdI) (its.map bodyI)) ∧ Hid (WrS wr (w.heap.size + 1) w1.heap.size (sgPS AF f ps)) ∧ Hid (∀ ad : Addr, O = some ad → ad.block = w.heap.size ∨ w1.heap.size ≤ ad.block) ∧ Below w.heap.size w wr ∧ w1.heap.size ≤ wr.heap.size) (fun _ iv _ => f - (intOf iv).toNat)
  case atStart => exact ⟨0, _, _, [], by omega, rfl, rfl, rfl, by simp [Hid], by unfold Hid; simp, O1.out, WF.out, fun ad ha => by injection ha with ha; subst ha; exact .inl rfl, E1.out, Nat.le_refl _⟩
  case round =>
    obtain ⟨i, O, oc, its, hi, rfl, rfl, hpl, hr, hp1, hO, hWF, hOb, hb, hz⟩ := hrel
    have HB := Lib.hid hb
    have hwz := hb.size
    clear hb
    by_cases hlt : i < f
    · obtain ⟨aF, t, rfl, haF, ht, hc0, hc1, hc2, hrt⟩ := RdPS.at_ hWF.out.rd hlt
      obtain ⟨x, hx⟩ : ∃ x, F[i]? = some x := ⟨_, List.getElem?_eq_getElem (by have := HFL.out; omega)⟩
      obtain ⟨hst, hxs⟩ := pt_at HP.out ht hx
      have hrx : RdI wr t.A t.n [x % sy] := by have := hrt.head; rw [← hxs]; exact this
      have htn : t.n = 1 := by have := hrx.len; simpa using this.symm
      obtain ⟨ax, xv, eA, hax, hxv, hcx⟩ := hrx.at_ (k := 0) (by omega)
      simp at hxv; subst hxv
      have HX := Lib.hid hx
      have eax : ax.add 0 = ax := by simp [Addr.add]
      rw [eax] at hcx
      rw [hst] at hc0; rw [eA, htn] at hc2
      clear hx ht hxs hst hrt hrx htn eax hc1 eA
      go_wp2_with fail
      obtain ⟨wx, hwx⟩ : ∃ wx, wr.alloc (.cells #[i64 ((n : Int) / 2), i64 (x / sy)] 2) = wx := ⟨_, rfl⟩
      have OX := Lib.hid (show Own wx wr.heap.size 2 1 (some ⟨wr.heap.size, 0, none⟩) 2 2 [i64 ((n : Int) / 2), i64 (x / sy)] by rw [← hwx]; exact Own.lit2 (Nat.le_refl _))
      have EX := Lib.hid (show Below wr.heap.size wr wx by rw [← hwx]; exact below_size.alloc (Nat.le_refl _) _)
      have HC2 := Lib.hid hc2; have HCX := Lib.hid hcx
      have hzx : wr.heap.size ≤ wx.heap.size := EX.out.size
      rw [hwx]
      clear hc0 hc2 hcx hwx
      obtain ⟨wo, rfl⟩ : ∃ wo : World, wo = wr := ⟨_, rfl⟩
      go_loopw [8, 9] (fun xv jv wy => ∃ (j : Nat) (X : Option Addr) (xc : Nat), j ≤ n ∧ jv = .int .i64 j ∧ xv = .slice X (2 + j) xc ∧ Hid (Own wy wo.heap.size 2 1 X (2 + j) xc ((((n : Int) / 2) :: (x / sy) :: List.replicate j (-1)).map i64)) ∧ Below wo.heap.size wo wy) (fun _ jv _ => n - (intOf jv).toNat)
      case atStart => exact ⟨0, _, _, by omega, rfl, rfl, OX.out, EX.out⟩
      case round =>
        obtain ⟨j, X, xc, hj, rfl, rfl, hX, hy⟩ := hrel
        have HY := Lib.hid hy
        have hyz := hy.size
        clear hy
        by_cases hjn : j < n
        · go_wp2_with (at_builtin; refine wp_app1 (by rfl) _ _ 25 2 (.int .i64 0) 8 (by rfl) Try.underlying25 info_i64 rfl wo.heap.size X (2 + j) xc ((((n : Int) / 2) :: (x / sy) :: List.replicate j (-1)).map i64) (by rfl) (by exact hX.out.alloc _) wr.heap.size (i64 (-1)) (by rfl) (by exact new_cell _ _ _ 0) rfl (by omega) (by omega) (by simp; omega) ?_; intro gd cap6 w6 own6 hb6 hk6 hg6 hz6)
          have O6 := Lib.hid (show Own w6 wo.heap.size 2 1 (some ⟨gd, 0, none⟩) (2 + (j + 1)) cap6 ((((n : Int) / 2) :: (x / sy) :: List.replicate (j + 1) (-1)).map i64) by
            rw [List.replicate_succ']; simpa [Nat.add_assoc] using own6)
          have E6 := Lib.hid (HY.out.trans ((below_size.alloc (Nat.le_refl _) (.cells #[i64 (-1)] 2)).mono hyz |>.trans hb6))
          clear own6 hb6 hk6 hg6 hz6
          go_wp2_with fail
          go_roundw
          case rel => exact ⟨j + 1, some ⟨gd, 0, none⟩, cap6, by omega, by go_num, by go_num, O6.out, E6.out⟩
          case measure => simp [intOf]; omega
        · obtain rfl : j = n := by omega
          have hk : 2 + j / 2 < 2 + j := by omega
          have WX := Lib.hid hX.out.wr
          obtain ⟨xa, v, ea, hg1, hg2, _, hv, hcc, hf⟩ := WX.out.at_ hk
          have hxa : xa = ⟨xa.block, 0, none⟩ := (hX.out.block ea).2.2.1
          obtain ⟨gx, hgx⟩ : ∃ gx, xa.block = gx := ⟨_, rfl⟩
          rw [hgx] at hxa hg1 hg2
          subst hxa; subst ea
          rw [head_add] at hcc hf
          have W7 := Lib.hid (WX.out.set hk (i64 (x % sy)))
          rw [head_add] at W7
          have d2 := keepc HY.out HC2.out; have d3 := keepc HY.out HCX.out
          obtain ⟨w7, hw7⟩ : ∃ w7, wr.setCell ⟨gx, 2 + j / 2, none⟩ (i64 (x % sy)) = w7 := ⟨_, rfl⟩
          have hz7 : w7.heap.size = wr.heap.size := by rw [← hw7]; simp
          have E7 := Lib.hid (show Below wo.heap.size wo (w7.alloc (.cells #[.slice (some ⟨gx, 0, none⟩) (2 + j) xc] 25)) by rw [← hw7]; exact (HY.out.setCell (by exact hg1) _).alloc (by simp; omega) _)
          have W8 := Lib.hid (show Wr (w7.alloc (.cells #[.slice (some ⟨gx, 0, none⟩) (2 + j) xc] 25)) wo.heap.size (w7.alloc (.cells #[.slice (some ⟨gx, 0, none⟩) (2 + j) xc] 25)).heap.size (some ⟨gx, 0, none⟩) (2 + j) ((startN j (x / sy) (x % sy)).map i64) by
            have h1 := W7.out
            rw [← List.map_set, hw7] at h1
            exact (h1.alloc _).wider (Nat.le_refl _) (by simp; omega))
          have hza : w.heap.size ≤ (w7.alloc (.cells #[.slice (some ⟨gx, 0, none⟩) (2 + j) xc] 25)).heap.size := by simp; omega
          have hzb : w1.heap.size ≤ (w7.alloc (.cells #[.slice (some ⟨gx, 0, none⟩) (2 + j) xc] 25)).heap.size := by simp; omega
          have O7 := Lib.hid (hO.out.keep E7.out)
          clear hv hz7
          go_wp2_with (at_builtin; refine wp_app1 (by rfl) _ _ 27 25 (.slice none 0 0) 24 (by rfl) Try.underlying27 info_I64S rfl w.heap.size O i oc (its.map hdI) (by rfl) (by exact O7.out.own) w7.heap.size (.slice (some ⟨gx, 0, none⟩) (2 + j) xc) (by rfl) (by exact new_cell _ _ _ 0) rfl (by omega) (by omega) hza ?_; intro g' cap w3 own3 hb3 hk3 hg3 hz3)
          have O3 := Lib.hid (hO.out.push (s := sgI (some ⟨gx, 0, none⟩) (2 + j) (startN j (x / sy) (x % sy))) (by omega) E7.out W8.out own3 hk3 hg3 hz3)
          have B3 := Lib.hid (HB.out.trans ((E7.out.mono (by omega)).trans hb3))
          have WF3 := Lib.hid (show WrS w3 (w.heap.size + 1) w1.heap.size (sgPS (some aF) f ps) from (hWF.out.stay (fun b _ _ hb => E7.out.block b hb) E7.out.size).stay (fun b h1 h2 hb => hk3 b hb (fun ad' ha => by have := hOb.out ad' ha; omega)) hz3)
          have OB3 := Lib.hid (show ∀ a : Addr, some (⟨g', 0, none⟩ : Addr) = some a → a.block = w.heap.size ∨ w1.heap.size ≤ a.block from fun a ha => by
            injection ha with ha; subst ha
            rcases hg3 with hg3 | hg3
            · exact hOb.out _ hg3
            · right; show _ ≤ g'; omega)
          have hz4 : w1.heap.size ≤ w3.heap.size := by omega
          clear own3 hb3 hk3 hg3 hw7
          go_wp2_with fail
          go_roundw
          case rel =>
            refine ⟨i + 1, some ⟨g', 0, none⟩, cap, its ++ [⟨some ⟨gx, 0, none⟩, 2 + j, xc, startN j (x / sy) (x % sy)⟩], by omega, by go_num, rfl, by unfold Hid; rw [List.length_append, hpl.out]; rfl, by unfold Hid; rw [take_at HX.out, List.map_append, List.map_append, hr.out]; rfl, ?_, O3.out.snocII, WF3.out, OB3.out, B3.out, hz4⟩
            intro t ht
            rcases List.mem_append.1 ht with ht | ht
            · exact hp1.out t ht
            · rw [List.mem_singleton] at ht; subst ht; show 2 + j ≤ 11; omega
          case measure => simp [intOf]; omega
    · have HS := Lib.hid (show its.map It.xs = R by rw [hr.out, HR.out, List.take_of_length_le (by rw [← HFL.out]; omega)])
      clear hr
      go_wp2_with fail
      go_ret
      refine ⟨O, i, oc, its, rfl, hO.out.wrII, ⟨by omega, fun t ht => by have := hp1.out t ht; omega, ?_, HS.out⟩, HB.out⟩
      have := sumN_bd its 11 hp1.out
      rw [hpl.out] at this; omega
set_option maxHeartbeats 4000000 in
set_option maxRecDepth 100000 in
theorem segmentStarts_c (sy st : Int) (A : Option Addr) (nr cp : Nat) (rs : List Rule3) (n : Nat) (w : World) (h : Rd3 w A nr rs) (hsy : 2 ≤ sy ∧ sy ≤ 6) (hnr : nr ≤ 10000) (hn : 1 ≤ n ∧ n ≤ 9) :
    Calls Try.prog 72 #[.agg #[.int .i64 sy, .int .i64 st, .slice A nr cp], .int .i64 n] w (IIOut (startsG n sy rs) w) := by
  have HL := Lib.hid h.len
  obtain ⟨F, hF⟩ : ∃ F, freeGo 0 rs = F := ⟨_, rfl⟩
  have HFN := Lib.hid (show F.length ≤ nr by rw [← hF, ← HL.out]; exact freeGo_len rs 0)
  have HR := Lib.hid (show startsG n sy rs = F.map fun x => startN n (x / sy) (x % sy) by rw [startsG, hF])
  obtain ⟨R, hR⟩ : ∃ R, startsG n sy rs = R := ⟨_, rfl⟩
  rw [hR] at HR ⊢
  have vk : IntKind.i64.wrap ((n : Int) + 2) = ((n + 2 : Nat) : Int) := (IntWalk.i64_in _ (by omega)).trans (by omega)
  obtain ⟨w0, hw0⟩ : ∃ w0, (w.alloc (.cells #[i64 sy, i64 st, .slice A nr cp] 32)).alloc (.cells #[] 25) = w0 := ⟨_, rfl⟩
  have B0 := Lib.hid (show Below w.heap.size w w0 by rw [← hw0]; exact (below_size.alloc (Nat.le_refl _) _).alloc (by simp) _)
  have O0 := Lib.hid (show Own w0 (w.heap.size + 1) 25 1 (some ⟨w.heap.size + 1, 0, none⟩) 0 0 [] by rw [← hw0]; have := Own.litK (k := 1) (w := w.alloc (.cells #[i64 sy, i64 st, .slice A nr cp] 32)) (B := w.heap.size + 1) (e := 25) (by simp); rwa [World.size_alloc] at this)
  have X0 := Lib.hid (show Blk w0 w.heap.size 32 #[i64 sy, i64 st, .slice A nr cp] by rw [← hw0]; exact (Blk.new w _ _).alloc _)
  have hz0 : w0.heap.size = w.heap.size + 1 + 1 := by rw [← hw0]; simp
  have HZ0 := Lib.hid hz0
  have hz1 : w.heap.size + 1 + 1 ≤ w0.heap.size := by omega
  have m0 := X0.out.cell 0; have m1 := X0.out.cell 1; have m2 := X0.out.cell 2
  simp at m0 m1 m2
  have H := Lib.hid h
  clear hR h hz0
  go_enter Try.func72, Try.ntmps72
  go_wp2_with fail
  refine (haltingPartials_c sy st A nr cp rs _ (by exact H.out.below B0.out) hsy hnr).mono ?_
  rintro e w1 ⟨AF, f, cf, ps, rfl, hw, hp, hb⟩
  have HP := Lib.hid (show ps.map datP = F.map fun x => (x / sy, 0, [x % sy]) by rw [hp.2.2.2, hGo_free, hF])
  have hfl : f = F.length := by have h1 := RdPS.len hw.rd; have h2 := congrArg List.length HP.out; simp only [List.length_map] at h2; omega
  have WF := Lib.hid (show WrS w1 (w.heap.size + 1 + 1) w1.heap.size (sgPS AF f ps) by have := hw; rwa [HZ0.out] at this)
  have E1 := Lib.hid (below_chain B0.out B0.out.size hb)
  have O1 := Lib.hid (OwnS.nil (O0.out.keep hb))
  have HFL := Lib.hid hfl
  have hfn : f ≤ nr := by rw [hfl]; exact HFN.out
  have hw1 := E1.out.size
  have hw2 := hb.size
  clear hw hb hp hfl hF hw0 m0 m1 m2
  go_wp2_with fail
  go_loopw [5, 13] (fun sv iv wr => ∃ (i : Nat) (O : Option Addr) (oc : Nat) (its : List It), i ≤ f ∧ iv = .int .i64 i ∧ sv = .slice O i oc ∧ Hid (its.length = i) ∧ Hid (its.map It.xs = (F.take i).map fun x => startN n (x / sy) (x % sy)) ∧ Hid (∀ t ∈ its, t.n ≤ 11) ∧
    Hid (OwnS wr (w.heap.size + 1) 25 1 O i oc (its.map hdI) (its.map bodyI)) ∧ Hid (WrS wr (w.heap.size + 1 + 1) w1.heap.size (sgPS AF f ps)) ∧ Hid (∀ ad : Addr, O = some ad → ad.block = w.heap.size + 1 ∨ w1.heap.size ≤ ad.block) ∧ Below w.heap.size w wr ∧ w1.heap.size ≤ wr.heap.size) (fun _ iv _ => f - (intOf iv).toNat)
  case atStart => exact ⟨0, _, _, [], by omega, rfl, rfl, rfl, by simp [Hid], by unfold Hid; simp, O1.out, WF.out, fun ad ha => by injection ha with ha; subst ha; exact .inl rfl, E1.out, Nat.le_refl _⟩
  case round =>
    obtain ⟨i, O, oc, its, hi, rfl, rfl, hpl, hr, hp1, hO, hWF, hOb, hb, hz⟩ := hrel
    have HB := Lib.hid hb
    have hwz := hb.size
    clear hb
    by_cases hlt : i < f
    · obtain ⟨aF, t, rfl, haF, ht, hc0, hc1, hc2, hrt⟩ := RdPS.at_ hWF.out.rd hlt
      obtain ⟨x, hx⟩ : ∃ x, F[i]? = some x := ⟨_, List.getElem?_eq_getElem (by have := HFL.out; omega)⟩
      obtain ⟨hst, hxs⟩ := pt_at HP.out ht hx
      have hrx : RdI wr t.A t.n [x % sy] := by have := hrt.head; rw [← hxs]; exact this
      have htn : t.n = 1 := by have := hrx.len; simpa using this.symm
      obtain ⟨ax, xv, eA, hax, hxv, hcx⟩ := hrx.at_ (k := 0) (by omega)
      simp at hxv; subst hxv
      have HX := Lib.hid hx
      have eax : ax.add 0 = ax := by simp [Addr.add]
      rw [eax] at hcx
      rw [hst] at hc0; rw [eA, htn] at hc2
      have HCX := Lib.hid hcx
      have c0a := fun o => keepa o hc0; have c1a := fun o => keepa o hc1; have c2a := fun o => keepa o hc2
      clear hx ht hxs hst hrt hrx htn eax eA hcx
      go_wp2_with fail
      obtain ⟨wx, hwx⟩ : ∃ wx, (wr.alloc (.cells #[i64 (x / sy), i64 t.at_, .slice (some ax) 1 t.c] 48)).alloc (.cells #[i64 (-1)] 2) = wx := ⟨_, rfl⟩
      rw [hwx]
      have BX := Lib.hid (show Blk wx wr.heap.size 48 #[i64 (x / sy), i64 t.at_, .slice (some ax) 1 t.c] by rw [← hwx]; exact (Blk.new wr _ _).alloc _)
      have CX : wx.cell? ⟨wr.heap.size + 1, 0, none⟩ = some (i64 (-1)) := by rw [← hwx]; have := new_cell (wr.alloc (.cells #[i64 (x / sy), i64 t.at_, .slice (some ax) 1 t.c] 48)) #[i64 (-1)] 2 0; rw [World.size_alloc] at this; exact this
      have EX := Lib.hid (show Below wr.heap.size wr wx by rw [← hwx]; exact (below_size.alloc (Nat.le_refl _) _).alloc (by simp) _)
      have hzx : wr.heap.size + 1 < wx.heap.size := by rw [← hwx]; simp
      clear hwx c0a c1a c2a hc0 hc1 hc2
      refine (repeatI_c ⟨wr.heap.size + 1, 0, none⟩ 1 (-1) (n + 2) _ CX (by exact hzx) (by omega)).mono ?_
      rintro e w2 ⟨gr, rfl, hw, hb⟩
      have E2 := Lib.hid (below_chain EX.out EX.out.size hb)
      have hz2 := hb.size
      have b2 := BX.out.keep hb
      have r0 := b2.cell 0; have r2 := b2.cell 2
      simp at r0 r2
      have r3 := keepc E2.out HCX.out
      have RW := Lib.hid (show RdI w2 (some ⟨gr, 0, none⟩) (n + 2) (List.replicate (n + 2) (-1)) from hw.rdI)
      have y0 := Ext.cell r0; have y1 := Ext.cell r2; have y2 := Ext.cell r3
      have hzr : wr.heap.size ≤ w2.heap.size := by omega
      clear hw hb CX b2
      go_wp2_with fail
      refine Mix.wp_region_mix [0, 0, 0, 0, 0, 3, 0, 3, 0, 3, 1, 1, 2, 0] (fun w' => ∃ x : Ext w2, w' = x.w) (by kernel_rfl) (by kernel_rfl) (InExt.drew _) ?_
      repeat (first | (refine Mix.wpMix_read (by rfl) ?_; go_big_quiet_step (fail); refine wpQuiet_nil ?_) | (refine Mix.wpMix_pure (by rfl) ?_; go_big_quiet_step (fail); refine wpQuiet_nil ?_))
      refine Mix.wpMix_chg (by rfl) (fun K hK => ?_)
      go_wp2_with fail
      refine (segmentNode_c (some ⟨gr, 0, none⟩) (n + 2) (n + 2) (List.replicate (n + 2) (-1)) ((n : Int) / 2) (x / sy) (x % sy) _ (by exact RW.out.below (below_drew below_size)) (by omega) (by omega)).mono ?_
      rintro e w4 ⟨ao, cap, rfl, hw, hb⟩
      rw [segNode_start n _ _ (by omega)] at hw
      have em := below_of_drew hb
      have W4 := Lib.hid hw
      have EM := Lib.hid em
      have hz4 := em.size
      clear hb hw
      go_wp2_with fail
      refine hK _ _ ⟨⟨_, em⟩, rfl⟩ ?_
      clear hK K
      repeat (first | (refine Mix.wpMix_read (by rfl) ?_; go_big_quiet_step (fail); refine wpQuiet_nil ?_) | (refine Mix.wpMix_pure (by rfl) ?_; go_big_quiet_step (fail); refine wpQuiet_nil ?_))
      refine Mix.wpMix_chg (by rfl) (fun K hK => ?_)
      go_wp2_with fail
      refine hK _ _ ⟨⟨_, em.alloc hz4 _⟩, rfl⟩ ?_
      clear hK K
      obtain ⟨wa, hwa⟩ : ∃ wa, w4.alloc (.cells #[.slice (some ao) (n + 2) cap] 25) = wa := ⟨_, rfl⟩
      rw [hwa]
      have EA := Lib.hid (show Below wr.heap.size wr wa by rw [← hwa]; exact (below_chain E2.out (by omega) EM.out).alloc (by omega) _)
      have hza : w4.heap.size + 1 = wa.heap.size := by rw [← hwa]; simp
      have WA := Lib.hid (show Wr wa wr.heap.size wa.heap.size (some ao) (n + 2) ((startN n (x / sy) (x % sy)).map i64) by
        rw [← hwa]; exact (W4.out.alloc _).wider (by show _ ≤ w2.heap.size; omega) (by simp))
      have CA : wa.cell? ⟨w4.heap.size, 0, none⟩ = some (.slice (some ao) (n + 2) cap) := by rw [← hwa]; exact new_cell _ _ _ 0
      have hzb : w.heap.size + 1 ≤ wa.heap.size := by omega
      have O4 := Lib.hid (hO.out.keep EA.out)
      clear hwa
      refine Mix.wpMix_tail (by rfl) (fun K hK => ?_)
      refine wp_app1 (by rfl) _ _ 27 25 (.slice none 0 0) 24 (by rfl) Try.underlying27 info_I64S rfl (w.heap.size + 1) O i oc (its.map hdI) (by rfl) (by exact O4.out.own) w4.heap.size (.slice (some ao) (n + 2) cap) (by rfl) CA rfl (by omega) (by omega) hzb ?_
      intro g' cap' w5 own3 hb3 hk3 hg3 hz3
      have O3 := Lib.hid (hO.out.push (s := sgI (some ao) (n + 2) (startN n (x / sy) (x % sy))) (by omega) EA.out WA.out own3 hk3 hg3 hz3)
      have B3 := Lib.hid (HB.out.trans ((EA.out.mono (by omega)).trans (hb3.mono (by omega))))
      have WF3 := Lib.hid (show WrS w5 (w.heap.size + 1 + 1) w1.heap.size (sgPS (some aF) f ps) from (hWF.out.stay (fun b _ _ hb => EA.out.block b hb) EA.out.size).stay (fun b h1 h2 hb => hk3 b hb (fun ad' ha => by have := hOb.out ad' ha; omega)) hz3)
      have OB3 := Lib.hid (show ∀ a : Addr, some (⟨g', 0, none⟩ : Addr) = some a → a.block = w.heap.size + 1 ∨ w1.heap.size ≤ a.block from fun a ha => by
        injection ha with ha; subst ha
        rcases hg3 with hg3 | hg3
        · exact hOb.out _ hg3
        · right; show _ ≤ g'; omega)
      have hz5 : w1.heap.size ≤ w5.heap.size := by omega
      clear own3 hb3 hk3 hg3 CA
      go_wp2_with fail
      refine hK _ _ ?_
      clear hK K
      repeat (first | (refine Mix.wpMix_read (by rfl) ?_; go_big_quiet_step (fail); refine wpQuiet_nil ?_) | (refine Mix.wpMix_pure (by rfl) ?_; go_big_quiet_step (fail); refine wpQuiet_nil ?_))
      (refine Mix.wpMix_nil ?_; try simp only [Exit.then])
      go_wp2_with fail
      go_roundw
      case rel =>
        refine ⟨i + 1, some ⟨g', 0, none⟩, cap', its ++ [⟨some ao, n + 2, cap, startN n (x / sy) (x % sy)⟩], by omega, by go_num, rfl, by unfold Hid; rw [List.length_append, hpl.out]; rfl, by unfold Hid; rw [take_at HX.out, List.map_append, List.map_append, hr.out]; rfl, ?_, O3.out.snocII, WF3.out, OB3.out, B3.out, hz5⟩
        intro t ht
        rcases List.mem_append.1 ht with ht | ht
        · exact hp1.out t ht
        · rw [List.mem_singleton] at ht; subst ht; show n + 2 ≤ 11; omega
      case measure => simp [intOf]; omega
    · have HS := Lib.hid (show its.map It.xs = R by rw [hr.out, HR.out, List.take_of_length_le (by rw [← HFL.out]; omega)])
      clear hr
      go_wp2_with fail
      go_ret
      refine ⟨O, i, oc, its, rfl, hO.out.wrII.wider (by omega) (Nat.le_refl _), ⟨by omega, fun t ht => by have := hp1.out t ht; omega, ?_, HS.out⟩, HB.out⟩
      have := sumN_bd its 11 hp1.out
      rw [hpl.out] at this; omega
theorem sizeOk_c (n : Int) (w : World) : Calls Try.prog 71 #[.int .i64 n] w fun e w' => e = .returned (.bool (inB n 1 9)) ∧ w = w' := by
  go_enter Try.func71, Try.ntmps71
  go_wp2_with (go_at_call 80; refine (within_b _ _ _ _ rfl _).mono ?_; rintro e w' ⟨rfl, rfl⟩)
  go_ret
  exact ⟨rfl, rfl⟩
set_option maxHeartbeats 1000000 in
theorem iSegmentStarts_c (sy st : Int) (A : Option Addr) (n cp : Nat) (rs : List Rule3) (x : Int) (w : World) (h : RdS w [sgX enc3 3 A n rs]) (hn : n ≤ 1000000000) :
    Calls Try.prog 32 #[.agg #[.int .i64 sy, .int .i64 st, .slice A n cp], .int .i64 x] w (IIOut2 (startsR sy st rs x) w) := by
  replace h : Rd3 w A n rs := h.head
  have HL := Lib.hid h.len
  have H := Lib.hid h; clear h
  obtain ⟨R, hR⟩ : ∃ R, startsR sy st rs x = R := ⟨_, rfl⟩
  rw [hR]
  obtain ⟨q, hq⟩ : ∃ q, machB sy st rs = q := ⟨_, rfl⟩
  obtain ⟨p, hp⟩ : ∃ p, inB x 1 9 = p := ⟨_, rfl⟩
  have HR := Lib.hid (show R = if q then (if p then (startsG x.toNat sy rs, 0) else ([], 2)) else ([], 1) by rw [← hR, startsR, hq, hp]); clear hR
  have HQ := Lib.hid hq; have HP := Lib.hid hp
  clear hp
  go_enter Try.func32, Try.ntmps32
  go_wp2_with fail
  refine (validMachine_c sy st A n cp rs q _ (by exact H.out.alloc _) hn hq).mono ?_
  rintro e w1 ⟨rfl, hb⟩
  have m0 : w1.cell? ⟨w.heap.size, 0, none⟩ = some (i64 sy) := keepc hb (by simp)
  have m1 : w1.cell? ⟨w.heap.size, 1, none⟩ = some (i64 st) := keepc hb (by simp)
  have m2 : w1.cell? ⟨w.heap.size, 2, none⟩ = some (.slice A n cp) := keepc hb (by simp)
  have T := Lib.hid (up1 hb); clear hb hq
  cases q
  · go_wp2_with fail
    go_ret2
    rw [HR.out]
    exact IIOut2.bad _ T.out
  · have hn6 := machB_n HQ.out HL.out
    have hbd := machB_bd HQ.out
    go_wp2_with fail
    refine (sizeOk_c x _).mono ?_
    rw [HP.out]
    rintro e w2 ⟨rfl, rfl⟩
    cases p
    · go_wp2_with fail
      go_ret2
      rw [HR.out]
      exact IIOut2.bad _ T.out
    · have hx := inB_t HP.out
      obtain ⟨xn, rfl⟩ := Int.eq_ofNat_of_zero_le (show 0 ≤ x by omega)
      go_wp2_with fail
      refine (segmentStarts_c sy st A n cp rs xn _ (by exact H.out.below T.out) hbd.1 (by omega) (by omega)).mono ?_
      rintro e w3 ⟨A2, n2, c2, ps, rfl, hw, hp, hb⟩
      have W2 := Lib.hid hw; have P2 := Lib.hid hp; have B2 := Lib.hid (below_chain T.out T.out.size hb)
      have hz := T.out.size
      clear hw hp hb
      go_wp2_with fail
      go_ret2
      rw [HR.out]
      exact ⟨A2, n2, c2, ps, rfl, W2.out.wider hz (Nat.le_refl _), P2.out, B2.out⟩
set_option maxHeartbeats 1000000 in
theorem sSegmentStarts_c (sy st : Int) (A : Option Addr) (n cp : Nat) (rs : List Rule3) (x : Int) (w : World) (h : RdS w [sgX enc3 3 A n rs]) (hn : n ≤ 1000000000) :
    Calls Try.prog 31 #[.agg #[.int .i64 sy, .int .i64 st, .slice A n cp], .int .i64 x] w (IIOut2 (startsR sy st rs x) w) := by
  replace h : Rd3 w A n rs := h.head
  have HL := Lib.hid h.len
  have H := Lib.hid h; clear h
  obtain ⟨R, hR⟩ : ∃ R, startsR sy st rs x = R := ⟨_, rfl⟩
  rw [hR]
  obtain ⟨q, hq⟩ : ∃ q, machB sy st rs = q := ⟨_, rfl⟩
  obtain ⟨p, hp⟩ : ∃ p, inB x 1 9 = p := ⟨_, rfl⟩
  have HR := Lib.hid (show R = if q then (if p then (startsG x.toNat sy rs, 0) else ([], 2)) else ([], 1) by rw [← hR, startsR, hq, hp]); clear hR
  have HQ := Lib.hid hq; have HP := Lib.hid hp
  have M0 := Lib.hid (show MachP (w.alloc (.cells #[i64 sy, i64 st, .slice A n cp] 32)) w.heap.size sy st A n cp rs from ⟨new_cell _ _ _ 0, new_cell _ _ _ 1, new_cell _ _ _ 2, H.out.alloc _⟩)
  clear hp
  go_enter Try.func31, Try.ntmps31
  go_wp2_with fail
  refine (l05Is_c w.heap.size sy st A n cp rs q _ (by exact M0.out) hn hq).mono ?_
  rintro e w1 ⟨rfl, hb⟩
  have M1 := Lib.hid (M0.out.below hb)
  have T := Lib.hid (up1 hb); clear hb hq
  cases q
  · go_wp2_with fail
    go_ret2
    rw [HR.out]
    exact IIOut2.bad _ T.out
  · have hn6 := machB_n HQ.out HL.out
    have hbd := machB_bd HQ.out
    go_wp2_with fail
    refine (l00In_b _ _ _ _ HP.out _).mono ?_
    rintro e w2 ⟨rfl, rfl⟩
    cases p
    · go_wp2_with fail
      go_ret2
      rw [HR.out]
      exact IIOut2.bad _ T.out
    · have hx := inB_t HP.out
      obtain ⟨xn, rfl⟩ := Int.eq_ofNat_of_zero_le (show 0 ≤ x by omega)
      go_wp2_with fail
      refine (l26Starts_c w.heap.size sy st A n cp rs xn _ (by exact M1.out) hbd.1 (by omega) (by omega)).mono ?_
      rintro e w3 ⟨A2, n2, c2, ps, rfl, hw, hp, hb⟩
      have W2 := Lib.hid hw; have P2 := Lib.hid hp; have B2 := Lib.hid (below_chain T.out T.out.size hb)
      have hz := T.out.size
      clear hw hp hb
      go_wp2_with fail
      go_ret2
      rw [HR.out]
      exact ⟨A2, n2, c2, ps, rfl, W2.out.wider hz (Nat.le_refl _), P2.out, B2.out⟩
end Go.Proofs.Ytfahdgmlhinabaa
