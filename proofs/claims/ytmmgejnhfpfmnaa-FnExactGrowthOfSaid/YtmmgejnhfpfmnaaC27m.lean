/-
  Contracts of chapter 27 (NormalFormula): blanks at both ends.
-/
import Derived.Test.YtmmgejnhfpfmnaaC27k
import Derived.Test.YtmmgejnhfpfmnaaC27r
import Derived.Test.YtmmgejnhfpfmnaaClK
namespace Go.Proofs.Ytmmgejnhfpfmnaa
open Go.RowKit

/-- the tape in memory, its rows wherever they lie -/
def NfAt (w0 : World) (lo g : Nat) (s hd : Int) (A0 : Option Addr) (n0 c0 : Nat) (A1 : Option Addr) (n1 c1 : Nat) (A2 : Option Addr) (n2 c2 : Nat) (S : NF) (w : World) : Prop :=
  ∃ its0 its1, its0.map It.xs = S.ws ∧ its1.map It.xs = S.rs ∧ FormW w0 lo w g s hd S.a A0 n0 c0 its0 A1 n1 c1 its1 A2 n2 c2 S.os
theorem below_of_drewNk {w w' : World} {m : Nat} (h : Below (w.drewN m).heap.size (w.drewN m) w') : Below w.heap.size w w' := ⟨h.os, h.tape, h.output, h.size, h.block⟩
theorem addr0 (a : Addr) : a.add 0 = a := by simp [Addr.add]
/-- how long the slice in a cell is -/
def lenAt (w : World) (p : Addr) : Nat := match w.cell? p with | some (.slice _ n _) => n | _ => 0
theorem lenAt_of {w : World} {p : Addr} {A : Option Addr} {n c : Nat} (h : w.cell? p = some (.slice A n c)) : lenAt w p = n := by rw [lenAt, h]
section
variable {w0 w w' : World} {lo g : Nat} {s hd a : Int} {A0 : Option Addr} {n0 c0 : Nat} {its0 : List It} {A1 : Option Addr} {n1 c1 : Nat} {its1 : List It} {A2 : Option Addr} {n2 c2 : Nat} {os : List Int} {S : NF}
/-- a wall of the tape -/
theorem FormW.wall {i : Nat} (h : FormW w0 lo w g s hd a A0 n0 c0 its0 A1 n1 c1 its1 A2 n2 c2 os) (hi : i < n0) : ∃ ad t, A0 = some ad ∧ its0[i]? = some t ∧ w.cell? (ad.add i) = some (.slice t.A t.n t.c) ∧ RdI w t.A t.n t.xs ∧ t.n ≤ t.c ∧ w.frozen? (ad.add i) = false := by
  obtain ⟨ad, t, e, _, ht, hc, hr⟩ := RdII.at_ h.form.r0 hi
  subst e
  exact ⟨ad, t, rfl, ht, hc, hr.head, h.k0 t (List.mem_of_getElem? ht), (h.frz0 hi).2⟩
theorem FormW.repeater {i : Nat} (h : FormW w0 lo w g s hd a A0 n0 c0 its0 A1 n1 c1 its1 A2 n2 c2 os) (hi : i < n1) : ∃ ad t, A1 = some ad ∧ its1[i]? = some t ∧ w.cell? (ad.add i) = some (.slice t.A t.n t.c) ∧ RdI w t.A t.n t.xs ∧ t.n ≤ t.c ∧ w.frozen? (ad.add i) = false := by
  obtain ⟨ad, t, e, _, ht, hc, hr⟩ := RdII.at_ h.form.r1 hi
  subst e
  exact ⟨ad, t, rfl, ht, hc, hr.head, h.k1 t (List.mem_of_getElem? ht), (h.frz1 hi).2⟩
end
theorem map_at {its : List It} {ws : List (List Int)} {i : Nat} {t : It} (h : its.map It.xs = ws) (ht : its[i]? = some t) : ws.getD i [] = t.xs := by
  rw [← h, List.getD_eq_getElem?_getD, List.getElem?_map, ht]; rfl
theorem stripF_hit {hd a x : Int} {l : List Int} (hx : x = 0) (hu : ¬ (hd = 0 ∧ a = 0)) : stripF hd (x :: l) a = stripF hd l (if hd = 0 then a - 1 else a) := by rw [stripF, if_pos ⟨hx, hu⟩]
theorem stripF_x {hd a x : Int} {l : List Int} (hx : x ≠ 0) : stripF hd (x :: l) a = (x :: l, a) := by rw [stripF, if_neg fun h => hx h.1]
theorem stripF_u {hd a x : Int} {l : List Int} (hu : hd = 0 ∧ a = 0) : stripF hd (x :: l) a = (x :: l, a) := by rw [stripF, if_neg fun h => h.2 hu]
/-- the first loop -/
def LAt (w0 : World) (lo g : Nat) (s hd : Int) (A0 : Option Addr) (n0 c0 : Nat) (A1 : Option Addr) (n1 c1 : Nat) (A2 : Option Addr) (n2 c2 : Nat) (S : NF) (x : List Int) (a : Int) (w : World) : Prop :=
  NfAt w0 lo g s hd A0 n0 c0 A1 n1 c1 A2 n2 c2 ⟨a, S.ws.set 0 x, S.rs, S.os⟩ w ∧ stripF hd x a = stripF hd (S.ws.getD 0 []) S.a ∧ x.length ≤ 400 ∧ -2000 + (x.length : Int) ≤ a ∧ a ≤ 10000

section
variable {w0 w w' : World} {lo g : Nat} {s hd a : Int} {A0 : Option Addr} {n0 c0 : Nat} {its0 : List It} {A1 : Option Addr} {n1 c1 : Nat} {its1 : List It} {A2 : Option Addr} {n2 c2 : Nat} {os : List Int} {S : NF} {x : List Int} {k : Nat}
theorem LAt.out (h : LAt w0 lo g s hd A0 n0 c0 A1 n1 c1 A2 n2 c2 S x a w) (ho : stripF hd x a = (x, a)) : NfAt w0 lo g s hd A0 n0 c0 A1 n1 c1 A2 n2 c2 (stripL hd S) w := by
  obtain ⟨h1, h2, _⟩ := h
  rw [stripL, ← h2, ho]; exact h1
theorem LAt.start (h : NfAt w0 lo g s hd A0 n0 c0 A1 n1 c1 A2 n2 c2 S w) (ok : OkN n1 k S) (hk : k ≤ 1000) : LAt w0 lo g s hd A0 n0 c0 A1 n1 c1 A2 n2 c2 S (S.ws.getD 0 []) S.a w := by
  obtain ⟨its0, its1, e0, e1, hF⟩ := h
  have h1 := sumW_at S.ws 0
  have h2 := ok.sum; have h3 := ok.a
  refine ⟨⟨its0, its1, ?_, e1, hF⟩, rfl, by omega, by omega, by omega⟩
  have : 0 < S.ws.length := by have := ok.nw; omega
  rw [List.getD_eq_getElem?_getD, List.getElem?_eq_getElem this]
  simpa using e0
theorem set_at0 {l : List (List Int)} {y : List Int} (h : 0 < l.length) : (l.set 0 y).getD 0 [] = y := by simp [List.getD_eq_getElem?_getD, h]
theorem NfAt.some0 (h : NfAt w0 lo g s hd A0 n0 c0 A1 n1 c1 A2 n2 c2 S w) (hn : 0 < n0) : ∃ ad : Addr, A0 = some ad := by
  obtain ⟨its0, its1, _, _, hF⟩ := h
  obtain ⟨ad, _, e, _⟩ := hF.wall (i := 0) hn
  exact ⟨ad, e⟩
theorem NfAt.world (h : NfAt w0 lo g s hd A0 n0 c0 A1 n1 c1 A2 n2 c2 S w) (hb : Below w.heap.size w w') : NfAt w0 lo g s hd A0 n0 c0 A1 n1 c1 A2 n2 c2 S w' := by
  obtain ⟨its0, its1, e0, e1, hF⟩ := h
  exact ⟨its0, its1, e0, e1, hF.world hb⟩
theorem NfAt.some1 (h : NfAt w0 lo g s hd A0 n0 c0 A1 n1 c1 A2 n2 c2 S w) (hn : 0 < n1) : ∃ ad : Addr, A1 = some ad := by
  obtain ⟨its0, its1, _, _, hF⟩ := h
  obtain ⟨ad, _, e, _⟩ := hF.repeater (i := 0) hn
  exact ⟨ad, e⟩
end
/-- the second loop: m symbols of the last wall are left -/
def RAt (w0 : World) (lo g : Nat) (s hd : Int) (A0 : Option Addr) (n0 c0 : Nat) (A1 : Option Addr) (n1 c1 : Nat) (A2 : Option Addr) (n2 c2 : Nat) (S : NF) (m : Nat) (w : World) : Prop :=
  NfAt w0 lo g s hd A0 n0 c0 A1 n1 c1 A2 n2 c2 ⟨S.a, S.ws.set n1 ((S.ws.getD n1 []).take m), S.rs, S.os⟩ w ∧ stripE hd S.a n1 (S.ws.getD n1 []) m = stripE hd S.a n1 (S.ws.getD n1 []) (S.ws.getD n1 []).length ∧ m ≤ (S.ws.getD n1 []).length
section
variable {w0 w w' : World} {lo g : Nat} {s hd a : Int} {A0 : Option Addr} {n0 c0 : Nat} {its0 : List It} {A1 : Option Addr} {n1 c1 : Nat} {its1 : List It} {A2 : Option Addr} {n2 c2 : Nat} {os : List Int} {S : NF} {k m : Nat}
theorem RAt.start (h : NfAt w0 lo g s hd A0 n0 c0 A1 n1 c1 A2 n2 c2 S w) (ok : OkN n1 k S) : RAt w0 lo g s hd A0 n0 c0 A1 n1 c1 A2 n2 c2 S (S.ws.getD n1 []).length w := by
  refine ⟨?_, rfl, Nat.le_refl _⟩
  rw [List.take_length]
  obtain ⟨its0, its1, e0, e1, hF⟩ := h
  refine ⟨its0, its1, ?_, e1, hF⟩
  have : n1 < S.ws.length := by have := ok.nw; omega
  rw [List.getD_eq_getElem?_getD, List.getElem?_eq_getElem this]
  simpa using e0
theorem RAt.out (h : RAt w0 lo g s hd A0 n0 c0 A1 n1 c1 A2 n2 c2 S m w) (ho : stripE hd S.a n1 (S.ws.getD n1 []) m = (S.ws.getD n1 []).take m) : NfAt w0 lo g s hd A0 n0 c0 A1 n1 c1 A2 n2 c2 (stripR hd n1 S) w := by
  obtain ⟨h1, h2, _⟩ := h
  rw [stripR, ← h2, ho]; exact h1
end
set_option maxHeartbeats 4000000 in
set_option maxRecDepth 100000 in
theorem implStrip_c (w0 : World) (lo g : Nat) (s hd : Int) (A0 : Option Addr) (n0 c0 : Nat) (A1 : Option Addr) (n1 c1 : Nat) (A2 : Option Addr) (n2 c2 : Nat) (S : NF) (w : World) (k : Nat) (h : NfAt w0 lo g s hd A0 n0 c0 A1 n1 c1 A2 n2 c2 S w) (ok : OkN n1 k S) (hk : k ≤ 1000) (hn0 : n0 = n1 + 1) (hn1 : 1 ≤ n1 ∧ n1 ≤ 3) :
    Calls Try.prog 119 #[.pointer (some ⟨g, 0, none⟩)] w fun e w' => (∃ v, e = .returned v) ∧ NfAt w0 lo g s hd A0 n0 c0 A1 n1 c1 A2 n2 c2 (stripN hd n1 S) w' := by
  have st := LAt.start h ok hk
  obtain ⟨adx, rfl⟩ := h.some0 (by omega)
  subst hn0
  have OK := Lib.hid ok
  have ST := Lib.hid st
  clear h ok st
  go_enter Try.func119, Try.ntmps119
  go_wp2_with fail
  go_loopw [] (fun wr => ∃ (x : List Int) (a : Int), Hid (LAt w0 lo g s hd (some adx) (n1 + 1) c0 A1 n1 c1 A2 n2 c2 S x a wr)) (fun wr => lenAt wr adx)
  case atStart => exact ⟨S.ws.getD 0 [], S.a, ST.out⟩
  case round =>
    obtain ⟨x, a, hL⟩ := hrel
    have hL' := hL.out
    obtain ⟨⟨its0, its1, e0, e1, hF⟩, hs, hx4, ha0, ha1⟩ := hL'
    simp only at e0 e1 hF
    obtain ⟨ad, t, e, ht, hct, hrt, htc, hfz⟩ := hF.wall (i := 0) (by omega)
    injection e with e; subst e
    rw [addr0] at hct hfz
    obtain rfl : x = t.xs := by
      rw [← map_at e0 ht, set_at0 (by have := OK.out.nw; omega)]
    have hl := hrt.len
    have k0 := hF.form.d0; have k1 := hF.form.d1; have k2 := hF.form.d2; have k3 := hF.form.d3; have k4 := hF.form.d4; have k5 := hF.form.d5
    have fa := hF.frz (k := 2) (by omega)
    have E0 := Lib.hid e0; have E1 := Lib.hid e1; have HF := Lib.hid hF; have HT := Lib.hid ht; have HR := Lib.hid hrt; have HS := Lib.hid hs; have HTL := Lib.hid hl
    rw [hl] at hx4 ha0
    clear e0 e1 hF ht hrt hs hl
    by_cases h0 : t.n = 0
    · have HE := Lib.hid (hL.out.out (by rw [List.length_eq_zero_iff.1 (HTL.out.trans h0)]; rfl))
      have g0 : decide ((0 : Int) < (t.n : Int)) = false := decide_eq_false (by omega)
      go_wp2_with fail
      refine (last_c s hd a (some adx) (n1 + 1) c0 A1 n1 c1 A2 n2 c2 _ (by omega)).mono ?_
      rintro e w1 ⟨rfl, hb1⟩
      rw [show (((n1 + 1 : Nat) : Int) - 1) = (n1 : Int) by omega]
      have HE1 := Lib.hid (HE.out.world (w' := w1) (by first | exact hb1 | exact below_of_drewNk hb1))
      have OK1 := Lib.hid (OK.out.stripL (hd := hd))
      clear HE hb1 k0 k1 k2 k3 k4 k5 hct hfz fa E0 E1 HF HT HR HS HTL hL
      go_wp2_with fail
      go_loopw [] (fun wr => ∃ m : Nat, Hid (RAt w0 lo g s hd (some adx) (n1 + 1) c0 A1 n1 c1 A2 n2 c2 (stripL hd S) m wr)) (fun wr => lenAt wr (adx.add n1))
      case atStart => exact ⟨_, RAt.start (by first | exact HE1.out | exact HE1.out.world (below_drewN below_size _)) OK1.out⟩
      case round =>
        clear HE1
        obtain ⟨m, hL⟩ := hrel
        have HFIN := Lib.hid (show ∀ w', NfAt w0 lo g s hd (some adx) (n1 + 1) c0 A1 n1 c1 A2 n2 c2 (stripR hd n1 (stripL hd S)) w' → NfAt w0 lo g s hd (some adx) (n1 + 1) c0 A1 n1 c1 A2 n2 c2 (stripN hd n1 S) w' from fun _ h => h)
        obtain ⟨S1, hS1⟩ : ∃ S1, stripL hd S = S1 := ⟨_, rfl⟩
        rw [hS1] at hL OK1 HFIN
        have hL' := hL.out
        obtain ⟨⟨its0, its1, e0, e1, hF⟩, hs, hm⟩ := hL'
        simp only at e0 e1 hF
        obtain ⟨ad, t, e, ht, hct, hrt, htc, hfz⟩ := hF.wall (i := n1) (by omega)
        injection e with e; subst e
        obtain ⟨xs, hxs⟩ : ∃ xs, S1.ws.getD n1 [] = xs := ⟨_, rfl⟩
        have hxl : xs.length ≤ 400 := by have h1 := sumW_at S1.ws n1; have h2 := OK1.out.sum; rw [hxs] at h1; omega
        rw [hxs] at e0 hs hm
        have htx : t.xs = xs.take m := by
          rw [← map_at e0 ht]
          have h1 := OK1.out.nw
          simp [List.getD_eq_getElem?_getD, show n1 < S1.ws.length by omega]
        have hl := hrt.len
        obtain ⟨tA, tn, tc, tx⟩ := t
        simp only at hct hrt htc htx hl
        subst htx
        obtain rfl : m = tn := by rw [List.length_take] at hl; omega
        have k1 := hF.form.d1; have k2 := hF.form.d2; have k3 := hF.form.d3
        have E0 := Lib.hid e0; have E1 := Lib.hid e1; have HF := Lib.hid hF; have HT := Lib.hid ht; have HR := Lib.hid hrt; have HS := Lib.hid hs; have HX := Lib.hid hxs; have HOK := Lib.hid OK1.out.nw; have hsa := OK1.out.a
        have HS1 := Lib.hid hS1
        clear e0 e1 hF ht hrt hs hl hxs OK1 hS1
        have HOUT := Lib.hid (show ∀ w', stripE hd S1.a n1 xs m = xs.take m → Below wr.heap.size wr w' → NfAt w0 lo g s hd (some adx) (n1 + 1) c0 A1 n1 c1 A2 n2 c2 (stripN hd n1 S) w' from fun w' ho hb => HFIN.out _ ((hL.out.out (by rw [HX.out]; exact ho)).world hb))
        clear HFIN
        by_cases h0 : m = 0
        · have g0 : ((m : Int) == 0) = true := by simp [h0]
          have HO := Lib.hid (HOUT.out)
          have HM := Lib.hid h0
          clear h0
          go_wp2_with fail
          refine (sizeI_c _ _ _ _ (by omega)).mono ?_
          rintro e w1 ⟨rfl, rfl⟩
          go_wp2_with fail
          refine bodyPost_ret (results_none rfl _ _ _) rfl ?_
          exact ⟨⟨_, rfl⟩, HO.out _ (by rw [HM.out]; rfl) (by first | exact below_size | exact below_drewN below_size _)⟩
        obtain ⟨m', rfl⟩ : ∃ m', m = m' + 1 := ⟨m - 1, by omega⟩
        have g0 : (((m' + 1 : Nat) : Int) == 0) = false := by simp; omega
        obtain ⟨adt, y, rfl, hab, hy, hcy⟩ := HR.out.at_ (k := m') (by omega)
        have v1 : IntKind.i64.wrap (((m' + 1 : Nat) : Int) - 1) = (m' : Int) := by rw [IntWalk.i64_in _ (by omega)]; omega
        have HY := Lib.hid (show xs.getD m' 0 = y by rw [List.getElem?_take] at hy; simp at hy; rw [List.getD_eq_getElem?_getD, hy]; rfl)
        clear hy
        by_cases h1 : y = 0
        · have g1 : (y != 0) = false := by simp [h1]
          have HNX := Lib.hid (show ¬ (hd = (n1 : Int) ∧ S1.a = (m' : Int)) → stripE hd S1.a n1 xs m' = stripE hd S1.a n1 xs xs.length from fun h2 => by rw [← HS.out, stripE, HY.out, if_pos ⟨h1, h2⟩])
          clear h1
          by_cases h2 : hd = (n1 : Int) ∧ S1.a = (m' : Int)
          · have hq : underB hd S1.a n1 m' = true := by simp [underB, h2]
            have HO := Lib.hid (HOUT.out · (by rw [stripE, if_neg fun h => h.2 h2]))
            clear h2 HOUT
            go_wp2_with fail
            refine (sizeI_c _ _ _ _ (by omega)).mono ?_
            rintro e w1 ⟨rfl, rfl⟩
            go_wp2_with fail
            refine (implUnder_c g s hd S1.a _ _ _ its0 _ _ _ its1 _ _ _ _ n1 m' true _ (by exact HF.out.form) hq).mono ?_
            rintro e w1 ⟨rfl, ⟨mm, rfl⟩⟩
            go_wp2_with fail
            refine bodyPost_ret (results_none rfl _ _ _) rfl ?_
            exact ⟨⟨_, rfl⟩, HO.out _ (by exact below_drewN below_size _)⟩
          · have hq : underB hd S1.a n1 m' = false := underB_f h2
            have HN2 := Lib.hid (HNX.out h2)
            clear h2 HOUT HNX
            have E2 := Lib.hid (show ∀ B c, (its0.set n1 ⟨B, m', c, xs.take m'⟩).map It.xs = S1.ws.set n1 (xs.take m') by intro B c; rw [List.map_set, E0.out, List.set_set])
            have F1 := Lib.hid (show FormW w0 lo (wr.setCell (adx.add n1) (.slice (some adt) m' tc)) g s hd S1.a (some adx) (n1 + 1) c0 (its0.set n1 ⟨some adt, m', tc, xs.take m'⟩) A1 n1 c1 its1 A2 n2 c2 S1.os from
              HF.out.subW (t' := ⟨some adt, m', tc, xs.take m'⟩) HT.out ⟨0, by show 0 + m' ≤ m' + 1; omega, by show xs.take m' = ((xs.take (m' + 1)).drop 0).take m'; rw [List.drop_zero, List.take_take, Nat.min_eq_left (by omega)], fun _ ad e => by simp only at e; rw [e, addr0]⟩ (by show m' ≤ tc; omega))
            have OUT := Lib.hid (show ∀ w' B c, FormW w0 lo w' g s hd S1.a (some adx) (n1 + 1) c0 (its0.set n1 ⟨B, m', c, xs.take m'⟩) A1 n1 c1 its1 A2 n2 c2 S1.os → RAt w0 lo g s hd (some adx) (n1 + 1) c0 A1 n1 c1 A2 n2 c2 S1 m' w' ∧ lenAt w' (adx.add n1) = m' from fun w' B c hF' => by
              refine ⟨⟨⟨_, its1, by rw [HX.out]; exact E2.out B c, E1.out, hF'⟩, by rw [HX.out]; exact HN2.out, by rw [HX.out]; omega⟩, ?_⟩
              obtain ⟨ad, t', e, ht', hct', _⟩ := hF'.wall (i := n1) (by omega)
              injection e with e; subst e
              have hlen : n1 < its0.length := (List.getElem?_eq_some_iff.1 HT.out).1
              rw [List.getElem?_set_self hlen] at ht'
              injection ht' with ht'; subst ht'
              exact lenAt_of hct')
            have M0 := Lib.hid (lenAt_of hct)
            clear HT E0
            go_wp2_with fail
            refine (sizeI_c _ _ _ _ (by omega)).mono ?_
            rintro e w1 ⟨rfl, rfl⟩
            go_wp2_with fail
            refine (implUnder_c g s hd S1.a _ _ _ its0 _ _ _ its1 _ _ _ _ n1 m' false _ (by exact HF.out.form) hq).mono ?_
            rintro e w1 ⟨rfl, ⟨mm, rfl⟩⟩
            go_wp2_with fail
            have x0 := Ext.cell (show (wr.drewN mm).cell? _ = _ from k3); have x1 := Ext.cell (show (wr.drewN mm).cell? _ = _ from hct)
            refine Mix.wp_region_mix [0, 0, 0, 3, 0, 0, 0, 0, 3, 0, 0, 3, 0, 0, 0, 0, 2] (fun w' => ∃ x : Ext (wr.drewN mm), w' = x.w) (by kernel_rfl) (by kernel_rfl) (InExt.drew _) ?_
            repeat (first | (refine Mix.wpMix_read (by rfl) ?_; go_big_quiet_step (fail); refine wpQuiet_nil ?_) | (refine Mix.wpMix_pure (by rfl) ?_; go_big_quiet_step (fail); refine wpQuiet_nil ?_))
            refine Mix.wpMix_tail (by rfl) (fun K hK => ?_)
            go_wp2_with fail
            refine hK _ _ ?_
            clear hK K
            (refine Mix.wpMix_nil ?_; try simp only [Exit.then])
            clear x0 x1 k1 k2 k3
            have F2 := Lib.hid (show FormW w0 lo ((wr.drewN (mm + 1)).setCell (adx.add n1) (.slice (some adt) m' tc)) g s hd S1.a (some adx) (n1 + 1) c0 (its0.set n1 ⟨some adt, m', tc, xs.take m'⟩) A1 n1 c1 its1 A2 n2 c2 S1.os from F1.out.world (below_drewN below_size _))
            clear F1 hct hcy
            go_wp2_with fail
            go_roundw
            case rel => exact ⟨m', by rw [HS1.out]; exact (OUT.out _ _ _ F2.out).1⟩
            case measure => have q1 := (OUT.out _ _ _ F2.out).2; have q2 := M0.out; rw [q1, q2]; all_goals omega
        · have g1 : (y != 0) = true := by simp [h1]
          have HO := Lib.hid (HOUT.out · (by rw [stripE, HY.out, if_neg fun h => h1 h.1]))
          clear h1 HOUT
          go_wp2_with fail
          refine (sizeI_c _ _ _ _ (by omega)).mono ?_
          rintro e w1 ⟨rfl, rfl⟩
          go_wp2_with fail
          refine bodyPost_ret (results_none rfl _ _ _) rfl ?_
          exact ⟨⟨_, rfl⟩, HO.out _ (by first | exact below_size | exact below_drewN below_size _)⟩
    · obtain ⟨adt, y, hA, hab, hy, hcy⟩ := HR.out.at_ (k := 0) (by omega)
      rw [addr0] at hcy
      have g0 : decide ((0 : Int) < (t.n : Int)) = true := decide_eq_true (by omega)
      obtain ⟨l, hxl⟩ : ∃ l, t.xs = y :: l := by
        cases hc : t.xs with
        | nil => rw [hc] at hy; simp at hy
        | cons z l => rw [hc] at hy; simp at hy; subst hy; exact ⟨l, rfl⟩
      rw [hA] at hct
      have HA := Lib.hid hA; have HX := Lib.hid hxl
      clear hA hy hxl
      by_cases h1 : y = 0
      · by_cases h2 : hd = 0 ∧ a = 0
        · have HE := Lib.hid (hL.out.out (by rw [HX.out, stripF_u h2]))
          have g1 : (y == 0) = true := by simp [h1]
          have hq : underB hd a 0 0 = true := by simp [underB, h2]
          clear h1 h2
          go_wp2_with fail
          refine (implUnder_c g s hd a _ _ _ its0 _ _ _ its1 _ _ _ _ 0 0 true _ (by exact HF.out.form) hq).mono ?_
          rintro e w1 ⟨rfl, ⟨m1, rfl⟩⟩
          go_wp2_with fail
          refine (last_c s hd a (some adx) (n1 + 1) c0 A1 n1 c1 A2 n2 c2 _ (by omega)).mono ?_
          rintro e w1 ⟨rfl, hb1⟩
          rw [show (((n1 + 1 : Nat) : Int) - 1) = (n1 : Int) by omega]
          have HE1 := Lib.hid (HE.out.world (w' := w1) (by first | exact hb1 | exact below_of_drewNk hb1))
          have OK1 := Lib.hid (OK.out.stripL (hd := hd))
          clear HE hb1 k0 k1 k2 k3 k4 k5 hct hfz fa E0 E1 HF HT HR HS HTL hL
          go_wp2_with fail
          go_loopw [] (fun wr => ∃ m : Nat, Hid (RAt w0 lo g s hd (some adx) (n1 + 1) c0 A1 n1 c1 A2 n2 c2 (stripL hd S) m wr)) (fun wr => lenAt wr (adx.add n1))
          case atStart => exact ⟨_, RAt.start (by first | exact HE1.out | exact HE1.out.world (below_drewN below_size _)) OK1.out⟩
          case round =>
            clear HE1
            obtain ⟨m, hL⟩ := hrel
            have HFIN := Lib.hid (show ∀ w', NfAt w0 lo g s hd (some adx) (n1 + 1) c0 A1 n1 c1 A2 n2 c2 (stripR hd n1 (stripL hd S)) w' → NfAt w0 lo g s hd (some adx) (n1 + 1) c0 A1 n1 c1 A2 n2 c2 (stripN hd n1 S) w' from fun _ h => h)
            obtain ⟨S1, hS1⟩ : ∃ S1, stripL hd S = S1 := ⟨_, rfl⟩
            rw [hS1] at hL OK1 HFIN
            have hL' := hL.out
            obtain ⟨⟨its0, its1, e0, e1, hF⟩, hs, hm⟩ := hL'
            simp only at e0 e1 hF
            obtain ⟨ad, t, e, ht, hct, hrt, htc, hfz⟩ := hF.wall (i := n1) (by omega)
            injection e with e; subst e
            obtain ⟨xs, hxs⟩ : ∃ xs, S1.ws.getD n1 [] = xs := ⟨_, rfl⟩
            have hxl : xs.length ≤ 400 := by have h1 := sumW_at S1.ws n1; have h2 := OK1.out.sum; rw [hxs] at h1; omega
            rw [hxs] at e0 hs hm
            have htx : t.xs = xs.take m := by
              rw [← map_at e0 ht]
              have h1 := OK1.out.nw
              simp [List.getD_eq_getElem?_getD, show n1 < S1.ws.length by omega]
            have hl := hrt.len
            obtain ⟨tA, tn, tc, tx⟩ := t
            simp only at hct hrt htc htx hl
            subst htx
            obtain rfl : m = tn := by rw [List.length_take] at hl; omega
            have k1 := hF.form.d1; have k2 := hF.form.d2; have k3 := hF.form.d3
            have E0 := Lib.hid e0; have E1 := Lib.hid e1; have HF := Lib.hid hF; have HT := Lib.hid ht; have HR := Lib.hid hrt; have HS := Lib.hid hs; have HX := Lib.hid hxs; have HOK := Lib.hid OK1.out.nw; have hsa := OK1.out.a
            have HS1 := Lib.hid hS1
            clear e0 e1 hF ht hrt hs hl hxs OK1 hS1
            have HOUT := Lib.hid (show ∀ w', stripE hd S1.a n1 xs m = xs.take m → Below wr.heap.size wr w' → NfAt w0 lo g s hd (some adx) (n1 + 1) c0 A1 n1 c1 A2 n2 c2 (stripN hd n1 S) w' from fun w' ho hb => HFIN.out _ ((hL.out.out (by rw [HX.out]; exact ho)).world hb))
            clear HFIN
            by_cases h0 : m = 0
            · have g0 : ((m : Int) == 0) = true := by simp [h0]
              have HO := Lib.hid (HOUT.out)
              have HM := Lib.hid h0
              clear h0
              go_wp2_with fail
              refine (sizeI_c _ _ _ _ (by omega)).mono ?_
              rintro e w1 ⟨rfl, rfl⟩
              go_wp2_with fail
              refine bodyPost_ret (results_none rfl _ _ _) rfl ?_
              exact ⟨⟨_, rfl⟩, HO.out _ (by rw [HM.out]; rfl) (by first | exact below_size | exact below_drewN below_size _)⟩
            obtain ⟨m', rfl⟩ : ∃ m', m = m' + 1 := ⟨m - 1, by omega⟩
            have g0 : (((m' + 1 : Nat) : Int) == 0) = false := by simp; omega
            obtain ⟨adt, y, rfl, hab, hy, hcy⟩ := HR.out.at_ (k := m') (by omega)
            have v1 : IntKind.i64.wrap (((m' + 1 : Nat) : Int) - 1) = (m' : Int) := by rw [IntWalk.i64_in _ (by omega)]; omega
            have HY := Lib.hid (show xs.getD m' 0 = y by rw [List.getElem?_take] at hy; simp at hy; rw [List.getD_eq_getElem?_getD, hy]; rfl)
            clear hy
            by_cases h1 : y = 0
            · have g1 : (y != 0) = false := by simp [h1]
              have HNX := Lib.hid (show ¬ (hd = (n1 : Int) ∧ S1.a = (m' : Int)) → stripE hd S1.a n1 xs m' = stripE hd S1.a n1 xs xs.length from fun h2 => by rw [← HS.out, stripE, HY.out, if_pos ⟨h1, h2⟩])
              clear h1
              by_cases h2 : hd = (n1 : Int) ∧ S1.a = (m' : Int)
              · have hq : underB hd S1.a n1 m' = true := by simp [underB, h2]
                have HO := Lib.hid (HOUT.out · (by rw [stripE, if_neg fun h => h.2 h2]))
                clear h2 HOUT
                go_wp2_with fail
                refine (sizeI_c _ _ _ _ (by omega)).mono ?_
                rintro e w1 ⟨rfl, rfl⟩
                go_wp2_with fail
                refine (implUnder_c g s hd S1.a _ _ _ its0 _ _ _ its1 _ _ _ _ n1 m' true _ (by exact HF.out.form) hq).mono ?_
                rintro e w1 ⟨rfl, ⟨mm, rfl⟩⟩
                go_wp2_with fail
                refine bodyPost_ret (results_none rfl _ _ _) rfl ?_
                exact ⟨⟨_, rfl⟩, HO.out _ (by exact below_drewN below_size _)⟩
              · have hq : underB hd S1.a n1 m' = false := underB_f h2
                have HN2 := Lib.hid (HNX.out h2)
                clear h2 HOUT HNX
                have E2 := Lib.hid (show ∀ B c, (its0.set n1 ⟨B, m', c, xs.take m'⟩).map It.xs = S1.ws.set n1 (xs.take m') by intro B c; rw [List.map_set, E0.out, List.set_set])
                have F1 := Lib.hid (show FormW w0 lo (wr.setCell (adx.add n1) (.slice (some adt) m' tc)) g s hd S1.a (some adx) (n1 + 1) c0 (its0.set n1 ⟨some adt, m', tc, xs.take m'⟩) A1 n1 c1 its1 A2 n2 c2 S1.os from
                  HF.out.subW (t' := ⟨some adt, m', tc, xs.take m'⟩) HT.out ⟨0, by show 0 + m' ≤ m' + 1; omega, by show xs.take m' = ((xs.take (m' + 1)).drop 0).take m'; rw [List.drop_zero, List.take_take, Nat.min_eq_left (by omega)], fun _ ad e => by simp only at e; rw [e, addr0]⟩ (by show m' ≤ tc; omega))
                have OUT := Lib.hid (show ∀ w' B c, FormW w0 lo w' g s hd S1.a (some adx) (n1 + 1) c0 (its0.set n1 ⟨B, m', c, xs.take m'⟩) A1 n1 c1 its1 A2 n2 c2 S1.os → RAt w0 lo g s hd (some adx) (n1 + 1) c0 A1 n1 c1 A2 n2 c2 S1 m' w' ∧ lenAt w' (adx.add n1) = m' from fun w' B c hF' => by
                  refine ⟨⟨⟨_, its1, by rw [HX.out]; exact E2.out B c, E1.out, hF'⟩, by rw [HX.out]; exact HN2.out, by rw [HX.out]; omega⟩, ?_⟩
                  obtain ⟨ad, t', e, ht', hct', _⟩ := hF'.wall (i := n1) (by omega)
                  injection e with e; subst e
                  have hlen : n1 < its0.length := (List.getElem?_eq_some_iff.1 HT.out).1
                  rw [List.getElem?_set_self hlen] at ht'
                  injection ht' with ht'; subst ht'
                  exact lenAt_of hct')
                have M0 := Lib.hid (lenAt_of hct)
                clear HT E0
                go_wp2_with fail
                refine (sizeI_c _ _ _ _ (by omega)).mono ?_
                rintro e w1 ⟨rfl, rfl⟩
                go_wp2_with fail
                refine (implUnder_c g s hd S1.a _ _ _ its0 _ _ _ its1 _ _ _ _ n1 m' false _ (by exact HF.out.form) hq).mono ?_
                rintro e w1 ⟨rfl, ⟨mm, rfl⟩⟩
                go_wp2_with fail
                have x0 := Ext.cell (show (wr.drewN mm).cell? _ = _ from k3); have x1 := Ext.cell (show (wr.drewN mm).cell? _ = _ from hct)
                refine Mix.wp_region_mix [0, 0, 0, 3, 0, 0, 0, 0, 3, 0, 0, 3, 0, 0, 0, 0, 2] (fun w' => ∃ x : Ext (wr.drewN mm), w' = x.w) (by kernel_rfl) (by kernel_rfl) (InExt.drew _) ?_
                repeat (first | (refine Mix.wpMix_read (by rfl) ?_; go_big_quiet_step (fail); refine wpQuiet_nil ?_) | (refine Mix.wpMix_pure (by rfl) ?_; go_big_quiet_step (fail); refine wpQuiet_nil ?_))
                refine Mix.wpMix_tail (by rfl) (fun K hK => ?_)
                go_wp2_with fail
                refine hK _ _ ?_
                clear hK K
                (refine Mix.wpMix_nil ?_; try simp only [Exit.then])
                clear x0 x1 k1 k2 k3
                have F2 := Lib.hid (show FormW w0 lo ((wr.drewN (mm + 1)).setCell (adx.add n1) (.slice (some adt) m' tc)) g s hd S1.a (some adx) (n1 + 1) c0 (its0.set n1 ⟨some adt, m', tc, xs.take m'⟩) A1 n1 c1 its1 A2 n2 c2 S1.os from F1.out.world (below_drewN below_size _))
                clear F1 hct hcy
                go_wp2_with fail
                go_roundw
                case rel => exact ⟨m', by rw [HS1.out]; exact (OUT.out _ _ _ F2.out).1⟩
                case measure => have q1 := (OUT.out _ _ _ F2.out).2; have q2 := M0.out; rw [q1, q2]; all_goals omega
            · have g1 : (y != 0) = true := by simp [h1]
              have HO := Lib.hid (HOUT.out · (by rw [stripE, HY.out, if_neg fun h => h1 h.1]))
              clear h1 HOUT
              go_wp2_with fail
              refine (sizeI_c _ _ _ _ (by omega)).mono ?_
              rintro e w1 ⟨rfl, rfl⟩
              go_wp2_with fail
              refine bodyPost_ret (results_none rfl _ _ _) rfl ?_
              exact ⟨⟨_, rfl⟩, HO.out _ (by first | exact below_size | exact below_drewN below_size _)⟩
        · have g1 : (y == 0) = true := by simp [h1]
          have hq : underB hd a 0 0 = false := underB_f h2
          have HS2 := Lib.hid (show stripF hd l (if hd = 0 then a - 1 else a) = stripF hd (S.ws.getD 0 []) S.a by rw [← HS.out, HX.out, stripF_hit h1 h2])
          have hll : l.length + 1 = t.n := by rw [← HTL.out, HX.out, List.length_cons]
          have HRR := Lib.hid (show RdI wr (some (adt.add 1)) (t.n - 1) l from by
            have h := HR.out
            rw [HA.out] at h
            have h := h.drop (show 1 ≤ t.n by omega)
            rwa [HX.out, List.drop_one, List.tail_cons] at h)
          have FdS := Lib.hid (show ∀ w' B c, Below wr.heap.size wr w' → Wr w' wr.heap.size w'.heap.size B (t.n - 1) (l.map i64) → t.n - 1 ≤ c → FormW w0 lo (w'.setCell adx (.slice B (t.n - 1) c)) g s hd a (some adx) (n1 + 1) c0 (its0.set 0 ⟨B, t.n - 1, c, l⟩) A1 n1 c1 its1 A2 n2 c2 S.os from fun w' B c hb hw hc => by
            have := HF.out.newW (k := 0) (t' := ⟨B, t.n - 1, c, l⟩) (by omega) hb hw hc
            rw [addr0] at this; exact this)
          have E2 := Lib.hid (show ∀ B n c, (its0.set 0 ⟨B, n, c, l⟩).map It.xs = S.ws.set 0 l by intro B n c; rw [List.map_set, E0.out, List.set_set])
          have FF := Lib.hid (show ∀ B c, (0 < t.n - 1 → B = some (adt.add 1)) → t.n - 1 ≤ c → FormW w0 lo (wr.setCell adx (.slice B (t.n - 1) c)) g s hd a (some adx) (n1 + 1) c0 (its0.set 0 ⟨B, t.n - 1, c, l⟩) A1 n1 c1 its1 A2 n2 c2 S.os from fun B c hB hc => by
            have := HF.out.subW (t' := ⟨B, t.n - 1, c, l⟩) HT.out ⟨1, by show 1 + (t.n - 1) ≤ t.n; omega, by rw [HX.out]; show l = ((y :: l).drop 1).take (t.n - 1); rw [List.drop_one, List.tail_cons, List.take_of_length_le (by omega)], fun h0 ad e => by rw [HA.out] at e; injection e with e; rw [← e]; exact hB h0⟩ hc
            rw [addr0] at this; exact this)
          have hll' : t.n = l.length + 1 := hll.symm
          clear h1 h2 HT HR E0 HS hL HTL HA HX
          obtain ⟨tA, tn, tc, tx⟩ := t
          simp only at hct g0 FF FdS HRR hll' hx4 ha0 h0 htc
          clear hll
          subst hll'
          have hct0 := Lib.hid hct
          by_cases hc1 : tc = 1
          · obtain rfl : l = [] := List.length_eq_zero_iff.1 (by omega)
            subst hc1
            have F1 := Lib.hid (FF.out (some adt) 0 (fun h => absurd h (by simp)) (by simp))
            have EE := Lib.hid (E2.out (some adt) 0 0)
            skip
            go_wp2_with fail
            refine (implUnder_c g s hd a _ _ _ its0 _ _ _ its1 _ _ _ _ 0 0 false _ (by exact HF.out.form) hq).mono ?_
            rintro e w1 ⟨rfl, ⟨m1, rfl⟩⟩
            have x0 := Ext.cell (show (wr.drewN m1).cell? _ = _ from k3); have x1 := Ext.cell (show (wr.drewN m1).cell? _ = _ from hct)
            go_wp2_with fail
            refine Mix.wp_region_mix [0, 0, 0, 3, 0, 0, 0, 3, 0, 3, 0, 0, 2] (fun w' => ∃ x : Ext (wr.drewN m1), w' = x.w) (by kernel_rfl) (by kernel_rfl) (InExt.drew _) ?_
            repeat (first | (refine Mix.wpMix_read (by rfl) ?_; go_big_quiet_step (fail); refine wpQuiet_nil ?_) | (refine Mix.wpMix_pure (by rfl) ?_; go_big_quiet_step (fail); refine wpQuiet_nil ?_))
            refine Mix.wpMix_tail (by rfl) (fun K hK => ?_)
            go_wp2_with fail
            refine hK _ _ ?_
            clear hK K
            (refine Mix.wpMix_nil ?_; try simp only [Exit.then])
            clear x0 x1
            obtain ⟨w2, hw2⟩ : ∃ w2, (wr.drewN (m1 + 1)).setCell adx (.slice (some adt) (0) (0)) = w2 := ⟨_, rfl⟩
            have G1 := Lib.hid (show FormW w0 lo w2 g s hd a (some adx) (n1 + 1) c0 (its0.set 0 ⟨some adt, 0, 0, []⟩) A1 n1 c1 its1 A2 n2 c2 S.os by
              rw [← hw2]
              have h := FF.out (some adt) (0) (by intro h0; first | rfl | exact absurd h0 (by simp) | simp [Addr.add]) (by first | (simp; done) | (simp; omega))
              simp only [Nat.add_sub_cancel] at h
              exact h.world (w' := (wr.setCell adx (.slice (some adt) (0) (0))).drewN (m1 + 1)) (below_drewN below_size _))
            rw [hw2]
            clear hw2 F1
            have m1' := G1.out.form.d1; have m2' := G1.out.form.d2; have fa' := G1.out.frz (k := 2) (by omega)
            clear k0 k1 k2 k3 k4 k5 fa HF hct
            have OUT := Lib.hid (show ∀ a' w', (if hd = 0 then a - 1 else a) = a' → FormW w0 lo w' g s hd a' (some adx) (n1 + 1) c0 (its0.set 0 ⟨some adt, 0, 0, []⟩) A1 n1 c1 its1 A2 n2 c2 S.os → LAt w0 lo g s hd (some adx) (n1 + 1) c0 A1 n1 c1 A2 n2 c2 S ([]) a' w' ∧ lenAt w' adx = 0 from fun a' w' ha' hF' => by
              refine ⟨⟨⟨_, its1, EE.out, E1.out, hF'⟩, by rw [← ha']; exact HS2.out, by first | (simp; done) | (simp at hx4 ⊢; omega), by split at ha' <;> first | (simp at ha0 ⊢; omega) | (simp at ha0 ⊢; done), by split at ha' <;> omega⟩, ?_⟩
              obtain ⟨ad, t', e, ht', hct', _⟩ := hF'.wall (i := 0) (by omega)
              injection e with e; subst e
              rw [addr0] at hct'
              have hlen : 0 < its0.length := by have := congrArg List.length EE.out; rw [List.length_map, List.length_set, List.length_set] at this; have := OK.out.nw; omega
              rw [List.getElem?_set_self hlen] at ht'
              injection ht' with ht'; subst ht'
              exact lenAt_of hct')
            have M0 := Lib.hid (lenAt_of hct0.out)
            by_cases hz : hd = 0
            · have g5 : (hd == 0) = true := by simp [hz]
              have v5 : IntKind.i64.wrap (a - 1) = a - 1 := IntWalk.i64_in _ (by omega)
              have HZ := Lib.hid (show (if hd = 0 then a - 1 else a) = a - 1 from if_pos hz)
              clear hz
              go_wp2_with fail
              go_roundw
              case rel => exact ⟨[], a - 1, (OUT.out _ _ HZ.out (G1.out.setA (a - 1))).1⟩
              case measure => have q1 := (OUT.out _ _ HZ.out (G1.out.setA (a - 1))).2; have q2 := M0.out; rw [q1, q2]; all_goals omega
            · have g5 : (hd == 0) = false := by simp [hz]
              have HZ := Lib.hid (show (if hd = 0 then a - 1 else a) = a from if_neg hz)
              clear hz
              go_wp2_with fail
              go_roundw
              case rel => exact ⟨[], a, (OUT.out _ _ HZ.out G1.out).1⟩
              case measure => have q1 := (OUT.out _ _ HZ.out G1.out).2; have q2 := M0.out; rw [q1, q2]; all_goals omega
          · have F1 := Lib.hid (FF.out (some (adt.add 1)) (tc - 1) (fun _ => rfl) (by omega))
            have EE := Lib.hid (E2.out (some (adt.add 1)) l.length (tc - 1))
            skip
            go_wp2_with fail
            refine (implUnder_c g s hd a _ _ _ its0 _ _ _ its1 _ _ _ _ 0 0 false _ (by exact HF.out.form) hq).mono ?_
            rintro e w1 ⟨rfl, ⟨m1, rfl⟩⟩
            have x0 := Ext.cell (show (wr.drewN m1).cell? _ = _ from k3); have x1 := Ext.cell (show (wr.drewN m1).cell? _ = _ from hct)
            go_wp2_with fail
            refine Mix.wp_region_mix [0, 0, 0, 3, 0, 0, 0, 3, 0, 3, 0, 0, 2] (fun w' => ∃ x : Ext (wr.drewN m1), w' = x.w) (by kernel_rfl) (by kernel_rfl) (InExt.drew _) ?_
            repeat (first | (refine Mix.wpMix_read (by rfl) ?_; go_big_quiet_step (fail); refine wpQuiet_nil ?_) | (refine Mix.wpMix_pure (by rfl) ?_; go_big_quiet_step (fail); refine wpQuiet_nil ?_))
            refine Mix.wpMix_tail (by rfl) (fun K hK => ?_)
            go_wp2_with fail
            refine hK _ _ ?_
            clear hK K
            (refine Mix.wpMix_nil ?_; try simp only [Exit.then])
            clear x0 x1
            obtain ⟨w2, hw2⟩ : ∃ w2, (wr.drewN (m1 + 1)).setCell adx (.slice (some ⟨adt.block, adt.off + 1, none⟩) (l.length) (tc - 1)) = w2 := ⟨_, rfl⟩
            have G1 := Lib.hid (show FormW w0 lo w2 g s hd a (some adx) (n1 + 1) c0 (its0.set 0 ⟨some (adt.add 1), l.length, tc - 1, l⟩) A1 n1 c1 its1 A2 n2 c2 S.os by
              rw [← hw2]
              have h := FF.out (some (adt.add 1)) (tc - 1) (by intro h0; first | rfl | exact absurd h0 (by simp) | simp [Addr.add]) (by first | (simp; done) | (simp; omega))
              simp only [Nat.add_sub_cancel] at h
              exact h.world (w' := (wr.setCell adx (.slice (some (adt.add 1)) (l.length) (tc - 1))).drewN (m1 + 1)) (below_drewN below_size _))
            rw [hw2]
            clear hw2 F1
            have m1' := G1.out.form.d1; have m2' := G1.out.form.d2; have fa' := G1.out.frz (k := 2) (by omega)
            clear k0 k1 k2 k3 k4 k5 fa HF hct
            have OUT := Lib.hid (show ∀ a' w', (if hd = 0 then a - 1 else a) = a' → FormW w0 lo w' g s hd a' (some adx) (n1 + 1) c0 (its0.set 0 ⟨some (adt.add 1), l.length, tc - 1, l⟩) A1 n1 c1 its1 A2 n2 c2 S.os → LAt w0 lo g s hd (some adx) (n1 + 1) c0 A1 n1 c1 A2 n2 c2 S (l) a' w' ∧ lenAt w' adx = l.length from fun a' w' ha' hF' => by
              refine ⟨⟨⟨_, its1, EE.out, E1.out, hF'⟩, by rw [← ha']; exact HS2.out, by first | (simp; done) | (simp at hx4 ⊢; omega), by split at ha' <;> first | (simp at ha0 ⊢; omega) | (simp at ha0 ⊢; done), by split at ha' <;> omega⟩, ?_⟩
              obtain ⟨ad, t', e, ht', hct', _⟩ := hF'.wall (i := 0) (by omega)
              injection e with e; subst e
              rw [addr0] at hct'
              have hlen : 0 < its0.length := by have := congrArg List.length EE.out; rw [List.length_map, List.length_set, List.length_set] at this; have := OK.out.nw; omega
              rw [List.getElem?_set_self hlen] at ht'
              injection ht' with ht'; subst ht'
              exact lenAt_of hct')
            have M0 := Lib.hid (lenAt_of hct0.out)
            by_cases hz : hd = 0
            · have g5 : (hd == 0) = true := by simp [hz]
              have v5 : IntKind.i64.wrap (a - 1) = a - 1 := IntWalk.i64_in _ (by omega)
              have HZ := Lib.hid (show (if hd = 0 then a - 1 else a) = a - 1 from if_pos hz)
              clear hz
              go_wp2_with fail
              go_roundw
              case rel => exact ⟨l, a - 1, (OUT.out _ _ HZ.out (G1.out.setA (a - 1))).1⟩
              case measure => have q1 := (OUT.out _ _ HZ.out (G1.out.setA (a - 1))).2; have q2 := M0.out; rw [q1, q2]; all_goals omega
            · have g5 : (hd == 0) = false := by simp [hz]
              have HZ := Lib.hid (show (if hd = 0 then a - 1 else a) = a from if_neg hz)
              clear hz
              go_wp2_with fail
              go_roundw
              case rel => exact ⟨l, a, (OUT.out _ _ HZ.out G1.out).1⟩
              case measure => have q1 := (OUT.out _ _ HZ.out G1.out).2; have q2 := M0.out; rw [q1, q2]; all_goals omega
      · have HE := Lib.hid (hL.out.out (by rw [HX.out, stripF_x h1]))
        have g1 : (y == 0) = false := by simp [h1]
        clear h1
        go_wp2_with fail
        refine (last_c s hd a (some adx) (n1 + 1) c0 A1 n1 c1 A2 n2 c2 _ (by omega)).mono ?_
        rintro e w1 ⟨rfl, hb1⟩
        rw [show (((n1 + 1 : Nat) : Int) - 1) = (n1 : Int) by omega]
        have HE1 := Lib.hid (HE.out.world (w' := w1) (by first | exact hb1 | exact below_of_drewNk hb1))
        have OK1 := Lib.hid (OK.out.stripL (hd := hd))
        clear HE hb1 k0 k1 k2 k3 k4 k5 hct hfz fa E0 E1 HF HT HR HS HTL hL
        go_wp2_with fail
        go_loopw [] (fun wr => ∃ m : Nat, Hid (RAt w0 lo g s hd (some adx) (n1 + 1) c0 A1 n1 c1 A2 n2 c2 (stripL hd S) m wr)) (fun wr => lenAt wr (adx.add n1))
        case atStart => exact ⟨_, RAt.start (by first | exact HE1.out | exact HE1.out.world (below_drewN below_size _)) OK1.out⟩
        case round =>
          clear HE1
          obtain ⟨m, hL⟩ := hrel
          have HFIN := Lib.hid (show ∀ w', NfAt w0 lo g s hd (some adx) (n1 + 1) c0 A1 n1 c1 A2 n2 c2 (stripR hd n1 (stripL hd S)) w' → NfAt w0 lo g s hd (some adx) (n1 + 1) c0 A1 n1 c1 A2 n2 c2 (stripN hd n1 S) w' from fun _ h => h)
          obtain ⟨S1, hS1⟩ : ∃ S1, stripL hd S = S1 := ⟨_, rfl⟩
          rw [hS1] at hL OK1 HFIN
          have hL' := hL.out
          obtain ⟨⟨its0, its1, e0, e1, hF⟩, hs, hm⟩ := hL'
          simp only at e0 e1 hF
          obtain ⟨ad, t, e, ht, hct, hrt, htc, hfz⟩ := hF.wall (i := n1) (by omega)
          injection e with e; subst e
          obtain ⟨xs, hxs⟩ : ∃ xs, S1.ws.getD n1 [] = xs := ⟨_, rfl⟩
          have hxl : xs.length ≤ 400 := by have h1 := sumW_at S1.ws n1; have h2 := OK1.out.sum; rw [hxs] at h1; omega
          rw [hxs] at e0 hs hm
          have htx : t.xs = xs.take m := by
            rw [← map_at e0 ht]
            have h1 := OK1.out.nw
            simp [List.getD_eq_getElem?_getD, show n1 < S1.ws.length by omega]
          have hl := hrt.len
          obtain ⟨tA, tn, tc, tx⟩ := t
          simp only at hct hrt htc htx hl
          subst htx
          obtain rfl : m = tn := by rw [List.length_take] at hl; omega
          have k1 := hF.form.d1; have k2 := hF.form.d2; have k3 := hF.form.d3
          have E0 := Lib.hid e0; have E1 := Lib.hid e1; have HF := Lib.hid hF; have HT := Lib.hid ht; have HR := Lib.hid hrt; have HS := Lib.hid hs; have HX := Lib.hid hxs; have HOK := Lib.hid OK1.out.nw; have hsa := OK1.out.a
          have HS1 := Lib.hid hS1
          clear e0 e1 hF ht hrt hs hl hxs OK1 hS1
          have HOUT := Lib.hid (show ∀ w', stripE hd S1.a n1 xs m = xs.take m → Below wr.heap.size wr w' → NfAt w0 lo g s hd (some adx) (n1 + 1) c0 A1 n1 c1 A2 n2 c2 (stripN hd n1 S) w' from fun w' ho hb => HFIN.out _ ((hL.out.out (by rw [HX.out]; exact ho)).world hb))
          clear HFIN
          by_cases h0 : m = 0
          · have g0 : ((m : Int) == 0) = true := by simp [h0]
            have HO := Lib.hid (HOUT.out)
            have HM := Lib.hid h0
            clear h0
            go_wp2_with fail
            refine (sizeI_c _ _ _ _ (by omega)).mono ?_
            rintro e w1 ⟨rfl, rfl⟩
            go_wp2_with fail
            refine bodyPost_ret (results_none rfl _ _ _) rfl ?_
            exact ⟨⟨_, rfl⟩, HO.out _ (by rw [HM.out]; rfl) (by first | exact below_size | exact below_drewN below_size _)⟩
          obtain ⟨m', rfl⟩ : ∃ m', m = m' + 1 := ⟨m - 1, by omega⟩
          have g0 : (((m' + 1 : Nat) : Int) == 0) = false := by simp; omega
          obtain ⟨adt, y, rfl, hab, hy, hcy⟩ := HR.out.at_ (k := m') (by omega)
          have v1 : IntKind.i64.wrap (((m' + 1 : Nat) : Int) - 1) = (m' : Int) := by rw [IntWalk.i64_in _ (by omega)]; omega
          have HY := Lib.hid (show xs.getD m' 0 = y by rw [List.getElem?_take] at hy; simp at hy; rw [List.getD_eq_getElem?_getD, hy]; rfl)
          clear hy
          by_cases h1 : y = 0
          · have g1 : (y != 0) = false := by simp [h1]
            have HNX := Lib.hid (show ¬ (hd = (n1 : Int) ∧ S1.a = (m' : Int)) → stripE hd S1.a n1 xs m' = stripE hd S1.a n1 xs xs.length from fun h2 => by rw [← HS.out, stripE, HY.out, if_pos ⟨h1, h2⟩])
            clear h1
            by_cases h2 : hd = (n1 : Int) ∧ S1.a = (m' : Int)
            · have hq : underB hd S1.a n1 m' = true := by simp [underB, h2]
              have HO := Lib.hid (HOUT.out · (by rw [stripE, if_neg fun h => h.2 h2]))
              clear h2 HOUT
              go_wp2_with fail
              refine (sizeI_c _ _ _ _ (by omega)).mono ?_
              rintro e w1 ⟨rfl, rfl⟩
              go_wp2_with fail
              refine (implUnder_c g s hd S1.a _ _ _ its0 _ _ _ its1 _ _ _ _ n1 m' true _ (by exact HF.out.form) hq).mono ?_
              rintro e w1 ⟨rfl, ⟨mm, rfl⟩⟩
              go_wp2_with fail
              refine bodyPost_ret (results_none rfl _ _ _) rfl ?_
              exact ⟨⟨_, rfl⟩, HO.out _ (by exact below_drewN below_size _)⟩
            · have hq : underB hd S1.a n1 m' = false := underB_f h2
              have HN2 := Lib.hid (HNX.out h2)
              clear h2 HOUT HNX
              have E2 := Lib.hid (show ∀ B c, (its0.set n1 ⟨B, m', c, xs.take m'⟩).map It.xs = S1.ws.set n1 (xs.take m') by intro B c; rw [List.map_set, E0.out, List.set_set])
              have F1 := Lib.hid (show FormW w0 lo (wr.setCell (adx.add n1) (.slice (some adt) m' tc)) g s hd S1.a (some adx) (n1 + 1) c0 (its0.set n1 ⟨some adt, m', tc, xs.take m'⟩) A1 n1 c1 its1 A2 n2 c2 S1.os from
                HF.out.subW (t' := ⟨some adt, m', tc, xs.take m'⟩) HT.out ⟨0, by show 0 + m' ≤ m' + 1; omega, by show xs.take m' = ((xs.take (m' + 1)).drop 0).take m'; rw [List.drop_zero, List.take_take, Nat.min_eq_left (by omega)], fun _ ad e => by simp only at e; rw [e, addr0]⟩ (by show m' ≤ tc; omega))
              have OUT := Lib.hid (show ∀ w' B c, FormW w0 lo w' g s hd S1.a (some adx) (n1 + 1) c0 (its0.set n1 ⟨B, m', c, xs.take m'⟩) A1 n1 c1 its1 A2 n2 c2 S1.os → RAt w0 lo g s hd (some adx) (n1 + 1) c0 A1 n1 c1 A2 n2 c2 S1 m' w' ∧ lenAt w' (adx.add n1) = m' from fun w' B c hF' => by
                refine ⟨⟨⟨_, its1, by rw [HX.out]; exact E2.out B c, E1.out, hF'⟩, by rw [HX.out]; exact HN2.out, by rw [HX.out]; omega⟩, ?_⟩
                obtain ⟨ad, t', e, ht', hct', _⟩ := hF'.wall (i := n1) (by omega)
                injection e with e; subst e
                have hlen : n1 < its0.length := (List.getElem?_eq_some_iff.1 HT.out).1
                rw [List.getElem?_set_self hlen] at ht'
                injection ht' with ht'; subst ht'
                exact lenAt_of hct')
              have M0 := Lib.hid (lenAt_of hct)
              clear HT E0
              go_wp2_with fail
              refine (sizeI_c _ _ _ _ (by omega)).mono ?_
              rintro e w1 ⟨rfl, rfl⟩
              go_wp2_with fail
              refine (implUnder_c g s hd S1.a _ _ _ its0 _ _ _ its1 _ _ _ _ n1 m' false _ (by exact HF.out.form) hq).mono ?_
              rintro e w1 ⟨rfl, ⟨mm, rfl⟩⟩
              go_wp2_with fail
              have x0 := Ext.cell (show (wr.drewN mm).cell? _ = _ from k3); have x1 := Ext.cell (show (wr.drewN mm).cell? _ = _ from hct)
              refine Mix.wp_region_mix [0, 0, 0, 3, 0, 0, 0, 0, 3, 0, 0, 3, 0, 0, 0, 0, 2] (fun w' => ∃ x : Ext (wr.drewN mm), w' = x.w) (by kernel_rfl) (by kernel_rfl) (InExt.drew _) ?_
              repeat (first | (refine Mix.wpMix_read (by rfl) ?_; go_big_quiet_step (fail); refine wpQuiet_nil ?_) | (refine Mix.wpMix_pure (by rfl) ?_; go_big_quiet_step (fail); refine wpQuiet_nil ?_))
              refine Mix.wpMix_tail (by rfl) (fun K hK => ?_)
              go_wp2_with fail
              refine hK _ _ ?_
              clear hK K
              (refine Mix.wpMix_nil ?_; try simp only [Exit.then])
              clear x0 x1 k1 k2 k3
              have F2 := Lib.hid (show FormW w0 lo ((wr.drewN (mm + 1)).setCell (adx.add n1) (.slice (some adt) m' tc)) g s hd S1.a (some adx) (n1 + 1) c0 (its0.set n1 ⟨some adt, m', tc, xs.take m'⟩) A1 n1 c1 its1 A2 n2 c2 S1.os from F1.out.world (below_drewN below_size _))
              clear F1 hct hcy
              go_wp2_with fail
              go_roundw
              case rel => exact ⟨m', by rw [HS1.out]; exact (OUT.out _ _ _ F2.out).1⟩
              case measure => have q1 := (OUT.out _ _ _ F2.out).2; have q2 := M0.out; rw [q1, q2]; all_goals omega
          · have g1 : (y != 0) = true := by simp [h1]
            have HO := Lib.hid (HOUT.out · (by rw [stripE, HY.out, if_neg fun h => h1 h.1]))
            clear h1 HOUT
            go_wp2_with fail
            refine (sizeI_c _ _ _ _ (by omega)).mono ?_
            rintro e w1 ⟨rfl, rfl⟩
            go_wp2_with fail
            refine bodyPost_ret (results_none rfl _ _ _) rfl ?_
            exact ⟨⟨_, rfl⟩, HO.out _ (by first | exact below_size | exact below_drewN below_size _)⟩
set_option maxHeartbeats 4000000 in
set_option maxRecDepth 100000 in
theorem specStrip_c (w0 : World) (lo g : Nat) (s hd : Int) (A0 : Option Addr) (n0 c0 : Nat) (A1 : Option Addr) (n1 c1 : Nat) (A2 : Option Addr) (n2 c2 : Nat) (S : NF) (w : World) (k : Nat) (h : NfAt w0 lo g s hd A0 n0 c0 A1 n1 c1 A2 n2 c2 S w) (ok : OkN n1 k S) (hk : k ≤ 1000) (hn0 : n0 = n1 + 1) (hn1 : 1 ≤ n1 ∧ n1 ≤ 3) :
    Calls Try.prog 115 #[.pointer (some ⟨g, 0, none⟩)] w fun e w' => (∃ v, e = .returned v) ∧ NfAt w0 lo g s hd A0 n0 c0 A1 n1 c1 A2 n2 c2 (stripN hd n1 S) w' := by
  have st := LAt.start h ok hk
  obtain ⟨adx, rfl⟩ := h.some0 (by omega)
  subst hn0
  have OK := Lib.hid ok
  have ST := Lib.hid st
  clear h ok st
  go_enter Try.func115, Try.ntmps115
  go_wp2_with fail
  go_loopw [] (fun wr => ∃ (x : List Int) (a : Int), Hid (LAt w0 lo g s hd (some adx) (n1 + 1) c0 A1 n1 c1 A2 n2 c2 S x a wr)) (fun wr => lenAt wr adx)
  case atStart => exact ⟨S.ws.getD 0 [], S.a, ST.out⟩
  case round =>
    obtain ⟨x, a, hL⟩ := hrel
    have hL' := hL.out
    obtain ⟨⟨its0, its1, e0, e1, hF⟩, hs, hx4, ha0, ha1⟩ := hL'
    simp only at e0 e1 hF
    obtain ⟨ad, t, e, ht, hct, hrt, htc, hfz⟩ := hF.wall (i := 0) (by omega)
    injection e with e; subst e
    rw [addr0] at hct hfz
    obtain rfl : x = t.xs := by
      rw [← map_at e0 ht, set_at0 (by have := OK.out.nw; omega)]
    have hl := hrt.len
    have k0 := hF.form.d0; have k1 := hF.form.d1; have k2 := hF.form.d2; have k3 := hF.form.d3; have k4 := hF.form.d4; have k5 := hF.form.d5
    have fa := hF.frz (k := 2) (by omega)
    have E0 := Lib.hid e0; have E1 := Lib.hid e1; have HF := Lib.hid hF; have HT := Lib.hid ht; have HR := Lib.hid hrt; have HS := Lib.hid hs; have HTL := Lib.hid hl
    rw [hl] at hx4 ha0
    clear e0 e1 hF ht hrt hs hl
    by_cases h0 : t.n = 0
    · have HE := Lib.hid (hL.out.out (by rw [List.length_eq_zero_iff.1 (HTL.out.trans h0)]; rfl))
      have g0 : decide ((0 : Int) < (t.n : Int)) = false := decide_eq_false (by omega)
      go_wp2_with fail
      rw [show (n1 : Int) = ((n1 : Nat) : Int) from rfl]
      have HE1 := HE
      have OK1 := Lib.hid (OK.out.stripL (hd := hd))
      clear HE k0 k1 k2 k3 k4 k5 hct hfz fa E0 E1 HF HT HR HS HTL hL
      go_wp2_with fail
      go_loopw [] (fun wr => ∃ m : Nat, Hid (RAt w0 lo g s hd (some adx) (n1 + 1) c0 A1 n1 c1 A2 n2 c2 (stripL hd S) m wr)) (fun wr => lenAt wr (adx.add n1))
      case atStart => exact ⟨_, RAt.start (by first | exact HE1.out | exact HE1.out.world (below_drewN below_size _)) OK1.out⟩
      case round =>
        clear HE1
        obtain ⟨m, hL⟩ := hrel
        have HFIN := Lib.hid (show ∀ w', NfAt w0 lo g s hd (some adx) (n1 + 1) c0 A1 n1 c1 A2 n2 c2 (stripR hd n1 (stripL hd S)) w' → NfAt w0 lo g s hd (some adx) (n1 + 1) c0 A1 n1 c1 A2 n2 c2 (stripN hd n1 S) w' from fun _ h => h)
        obtain ⟨S1, hS1⟩ : ∃ S1, stripL hd S = S1 := ⟨_, rfl⟩
        rw [hS1] at hL OK1 HFIN
        have hL' := hL.out
        obtain ⟨⟨its0, its1, e0, e1, hF⟩, hs, hm⟩ := hL'
        simp only at e0 e1 hF
        obtain ⟨ad, t, e, ht, hct, hrt, htc, hfz⟩ := hF.wall (i := n1) (by omega)
        injection e with e; subst e
        obtain ⟨xs, hxs⟩ : ∃ xs, S1.ws.getD n1 [] = xs := ⟨_, rfl⟩
        have hxl : xs.length ≤ 400 := by have h1 := sumW_at S1.ws n1; have h2 := OK1.out.sum; rw [hxs] at h1; omega
        rw [hxs] at e0 hs hm
        have htx : t.xs = xs.take m := by
          rw [← map_at e0 ht]
          have h1 := OK1.out.nw
          simp [List.getD_eq_getElem?_getD, show n1 < S1.ws.length by omega]
        have hl := hrt.len
        obtain ⟨tA, tn, tc, tx⟩ := t
        simp only at hct hrt htc htx hl
        subst htx
        obtain rfl : m = tn := by rw [List.length_take] at hl; omega
        have k1 := hF.form.d1; have k2 := hF.form.d2; have k3 := hF.form.d3
        have E0 := Lib.hid e0; have E1 := Lib.hid e1; have HF := Lib.hid hF; have HT := Lib.hid ht; have HR := Lib.hid hrt; have HS := Lib.hid hs; have HX := Lib.hid hxs; have HOK := Lib.hid OK1.out.nw; have hsa := OK1.out.a
        have HS1 := Lib.hid hS1
        clear e0 e1 hF ht hrt hs hl hxs OK1 hS1
        have HOUT := Lib.hid (show ∀ w', stripE hd S1.a n1 xs m = xs.take m → Below wr.heap.size wr w' → NfAt w0 lo g s hd (some adx) (n1 + 1) c0 A1 n1 c1 A2 n2 c2 (stripN hd n1 S) w' from fun w' ho hb => HFIN.out _ ((hL.out.out (by rw [HX.out]; exact ho)).world hb))
        clear HFIN
        by_cases h0 : m = 0
        · have g0 : ((m : Int) == 0) = true := by simp [h0]
          have HO := Lib.hid (HOUT.out)
          have HM := Lib.hid h0
          clear h0
          go_wp2_with fail
          refine bodyPost_ret (results_none rfl _ _ _) rfl ?_
          exact ⟨⟨_, rfl⟩, HO.out _ (by rw [HM.out]; rfl) (by first | exact below_size | exact below_drewN below_size _)⟩
        obtain ⟨m', rfl⟩ : ∃ m', m = m' + 1 := ⟨m - 1, by omega⟩
        have g0 : (((m' + 1 : Nat) : Int) == 0) = false := by simp; omega
        obtain ⟨adt, y, rfl, hab, hy, hcy⟩ := HR.out.at_ (k := m') (by omega)
        have v1 : IntKind.i64.wrap (((m' + 1 : Nat) : Int) - 1) = (m' : Int) := by rw [IntWalk.i64_in _ (by omega)]; omega
        have HY := Lib.hid (show xs.getD m' 0 = y by rw [List.getElem?_take] at hy; simp at hy; rw [List.getD_eq_getElem?_getD, hy]; rfl)
        clear hy
        by_cases h1 : y = 0
        · have g1 : (y != 0) = false := by simp [h1]
          have HNX := Lib.hid (show ¬ (hd = (n1 : Int) ∧ S1.a = (m' : Int)) → stripE hd S1.a n1 xs m' = stripE hd S1.a n1 xs xs.length from fun h2 => by rw [← HS.out, stripE, HY.out, if_pos ⟨h1, h2⟩])
          clear h1
          by_cases h2 : hd = (n1 : Int) ∧ S1.a = (m' : Int)
          · have hq : underB hd S1.a n1 m' = true := by simp [underB, h2]
            have HO := Lib.hid (HOUT.out · (by rw [stripE, if_neg fun h => h.2 h2]))
            clear h2 HOUT
            go_wp2_with fail
            refine (specUnder_c g s hd S1.a _ _ _ its0 _ _ _ its1 _ _ _ _ n1 m' true _ (by exact HF.out.form) hq).mono ?_
            rintro e w1 ⟨rfl, ⟨mm, rfl⟩⟩
            go_wp2_with fail
            refine bodyPost_ret (results_none rfl _ _ _) rfl ?_
            exact ⟨⟨_, rfl⟩, HO.out _ (by exact below_drewN below_size _)⟩
          · have hq : underB hd S1.a n1 m' = false := underB_f h2
            have HN2 := Lib.hid (HNX.out h2)
            clear h2 HOUT HNX
            have E2 := Lib.hid (show ∀ B c, (its0.set n1 ⟨B, m', c, xs.take m'⟩).map It.xs = S1.ws.set n1 (xs.take m') by intro B c; rw [List.map_set, E0.out, List.set_set])
            have F1 := Lib.hid (show FormW w0 lo (wr.setCell (adx.add n1) (.slice (some adt) m' tc)) g s hd S1.a (some adx) (n1 + 1) c0 (its0.set n1 ⟨some adt, m', tc, xs.take m'⟩) A1 n1 c1 its1 A2 n2 c2 S1.os from
              HF.out.subW (t' := ⟨some adt, m', tc, xs.take m'⟩) HT.out ⟨0, by show 0 + m' ≤ m' + 1; omega, by show xs.take m' = ((xs.take (m' + 1)).drop 0).take m'; rw [List.drop_zero, List.take_take, Nat.min_eq_left (by omega)], fun _ ad e => by simp only at e; rw [e, addr0]⟩ (by show m' ≤ tc; omega))
            have OUT := Lib.hid (show ∀ w' B c, FormW w0 lo w' g s hd S1.a (some adx) (n1 + 1) c0 (its0.set n1 ⟨B, m', c, xs.take m'⟩) A1 n1 c1 its1 A2 n2 c2 S1.os → RAt w0 lo g s hd (some adx) (n1 + 1) c0 A1 n1 c1 A2 n2 c2 S1 m' w' ∧ lenAt w' (adx.add n1) = m' from fun w' B c hF' => by
              refine ⟨⟨⟨_, its1, by rw [HX.out]; exact E2.out B c, E1.out, hF'⟩, by rw [HX.out]; exact HN2.out, by rw [HX.out]; omega⟩, ?_⟩
              obtain ⟨ad, t', e, ht', hct', _⟩ := hF'.wall (i := n1) (by omega)
              injection e with e; subst e
              have hlen : n1 < its0.length := (List.getElem?_eq_some_iff.1 HT.out).1
              rw [List.getElem?_set_self hlen] at ht'
              injection ht' with ht'; subst ht'
              exact lenAt_of hct')
            have M0 := Lib.hid (lenAt_of hct)
            clear HT E0
            go_wp2_with fail
            refine (specUnder_c g s hd S1.a _ _ _ its0 _ _ _ its1 _ _ _ _ n1 m' false _ (by exact HF.out.form) hq).mono ?_
            rintro e w1 ⟨rfl, ⟨mm, rfl⟩⟩
            go_wp2_with fail
            have x0 := Ext.cell (show (wr.drewN mm).cell? _ = _ from k3); have x1 := Ext.cell (show (wr.drewN mm).cell? _ = _ from hct)
            have HRL := Lib.hid (show RdI wr (some adt) m' (xs.take m') from by have h := HR.out.take (show m' ≤ m' + 1 by omega); rwa [List.take_take, Nat.min_eq_left (by omega)] at h)
            refine Mix.wp_region_mix [0, 0, 0, 3, 0, 0, 0, 0, 3, 0, 0, 3, 0, 0, 0, 1, 0, 2] (fun w' => ∃ x : Ext (wr.drewN mm), w' = x.w) (by kernel_rfl) (by kernel_rfl) (InExt.drew _) ?_
            repeat (first | (refine Mix.wpMix_read (by rfl) ?_; go_big_quiet_step (fail); refine wpQuiet_nil ?_) | (refine Mix.wpMix_pure (by rfl) ?_; go_big_quiet_step (fail); refine wpQuiet_nil ?_))
            refine Mix.wpMix_chg (by rfl) (fun K hK => ?_)
            go_wp2_with fail
            refine (l00OwnX_c (some adt) m' tc (xs.take m') _ (by exact HRL.out) (by omega)).mono ?_
            rintro e w2 ⟨AX, cX, rfl, ho, hb⟩
            have EB := Lib.hid (show Below (wr.drewN mm).heap.size (wr.drewN mm) w2 from ⟨hb.os, hb.tape, hb.output, hb.size, hb.block⟩)
            have G0 := Lib.hid (HF.out.newW (k := n1) (t' := ⟨AX, m', cX, xs.take m'⟩) (by omega) (w' := w2) ⟨hb.os, hb.tape, hb.output, hb.size, hb.block⟩ (by have := ho.wrK; rw [Nat.mul_one] at this; exact this.wider (Nat.le_refl _) (Nat.le_refl _)) ho.cap)
            have hct2 := keepc (W := wr) (w' := w2) ⟨hb.os, hb.tape, hb.output, hb.size, hb.block⟩ hct
            have hfz2 : w2.frozen? (adx.add n1) = false := (hb.frozen (p := adx.add n1) (World.block_lt_of_cell? wr _ hct)).trans hfz
            clear ho hb
            go_wp2_with fail
            refine hK _ _ ⟨⟨_, EB.out⟩, rfl⟩ ?_
            clear hK K
            repeat (first | (refine Mix.wpMix_read (by rfl) ?_; go_big_quiet_step (fail); refine wpQuiet_nil ?_) | (refine Mix.wpMix_pure (by rfl) ?_; go_big_quiet_step (fail); refine wpQuiet_nil ?_))
            refine Mix.wpMix_tail (by rfl) (fun K hK => ?_)
            go_wp2_with fail
            refine hK _ _ ?_
            clear hK K
            (refine Mix.wpMix_nil ?_; try simp only [Exit.then])
            clear x0 x1 k1 k2 k3 hct2 hfz2
            have O2 := OUT.out _ AX cX G0.out
            have F2 := Lib.hid O2
            clear G0 hct hcy O2
            go_wp2_with fail
            go_roundw
            case rel => exact ⟨m', by rw [HS1.out]; exact F2.out.1⟩
            case measure => have q1 := F2.out.2; have q2 := M0.out; rw [q1, q2]; all_goals omega
        · have g1 : (y != 0) = true := by simp [h1]
          have HO := Lib.hid (HOUT.out · (by rw [stripE, HY.out, if_neg fun h => h1 h.1]))
          clear h1 HOUT
          go_wp2_with fail
          refine bodyPost_ret (results_none rfl _ _ _) rfl ?_
          exact ⟨⟨_, rfl⟩, HO.out _ (by first | exact below_size | exact below_drewN below_size _)⟩
    · obtain ⟨adt, y, hA, hab, hy, hcy⟩ := HR.out.at_ (k := 0) (by omega)
      rw [addr0] at hcy
      have g0 : decide ((0 : Int) < (t.n : Int)) = true := decide_eq_true (by omega)
      obtain ⟨l, hxl⟩ : ∃ l, t.xs = y :: l := by
        cases hc : t.xs with
        | nil => rw [hc] at hy; simp at hy
        | cons z l => rw [hc] at hy; simp at hy; subst hy; exact ⟨l, rfl⟩
      rw [hA] at hct
      have HA := Lib.hid hA; have HX := Lib.hid hxl
      clear hA hy hxl
      by_cases h1 : y = 0
      · by_cases h2 : hd = 0 ∧ a = 0
        · have HE := Lib.hid (hL.out.out (by rw [HX.out, stripF_u h2]))
          have g1 : (y == 0) = true := by simp [h1]
          have hq : underB hd a 0 0 = true := by simp [underB, h2]
          clear h1 h2
          go_wp2_with fail
          refine (specUnder_c g s hd a _ _ _ its0 _ _ _ its1 _ _ _ _ 0 0 true _ (by exact HF.out.form) hq).mono ?_
          rintro e w1 ⟨rfl, ⟨m1, rfl⟩⟩
          go_wp2_with fail
          rw [show (n1 : Int) = ((n1 : Nat) : Int) from rfl]
          have HE1 := HE
          have OK1 := Lib.hid (OK.out.stripL (hd := hd))
          clear HE k0 k1 k2 k3 k4 k5 hct hfz fa E0 E1 HF HT HR HS HTL hL
          go_wp2_with fail
          go_loopw [] (fun wr => ∃ m : Nat, Hid (RAt w0 lo g s hd (some adx) (n1 + 1) c0 A1 n1 c1 A2 n2 c2 (stripL hd S) m wr)) (fun wr => lenAt wr (adx.add n1))
          case atStart => exact ⟨_, RAt.start (by first | exact HE1.out | exact HE1.out.world (below_drewN below_size _)) OK1.out⟩
          case round =>
            clear HE1
            obtain ⟨m, hL⟩ := hrel
            have HFIN := Lib.hid (show ∀ w', NfAt w0 lo g s hd (some adx) (n1 + 1) c0 A1 n1 c1 A2 n2 c2 (stripR hd n1 (stripL hd S)) w' → NfAt w0 lo g s hd (some adx) (n1 + 1) c0 A1 n1 c1 A2 n2 c2 (stripN hd n1 S) w' from fun _ h => h)
            obtain ⟨S1, hS1⟩ : ∃ S1, stripL hd S = S1 := ⟨_, rfl⟩
            rw [hS1] at hL OK1 HFIN
            have hL' := hL.out
            obtain ⟨⟨its0, its1, e0, e1, hF⟩, hs, hm⟩ := hL'
            simp only at e0 e1 hF
            obtain ⟨ad, t, e, ht, hct, hrt, htc, hfz⟩ := hF.wall (i := n1) (by omega)
            injection e with e; subst e
            obtain ⟨xs, hxs⟩ : ∃ xs, S1.ws.getD n1 [] = xs := ⟨_, rfl⟩
            have hxl : xs.length ≤ 400 := by have h1 := sumW_at S1.ws n1; have h2 := OK1.out.sum; rw [hxs] at h1; omega
            rw [hxs] at e0 hs hm
            have htx : t.xs = xs.take m := by
              rw [← map_at e0 ht]
              have h1 := OK1.out.nw
              simp [List.getD_eq_getElem?_getD, show n1 < S1.ws.length by omega]
            have hl := hrt.len
            obtain ⟨tA, tn, tc, tx⟩ := t
            simp only at hct hrt htc htx hl
            subst htx
            obtain rfl : m = tn := by rw [List.length_take] at hl; omega
            have k1 := hF.form.d1; have k2 := hF.form.d2; have k3 := hF.form.d3
            have E0 := Lib.hid e0; have E1 := Lib.hid e1; have HF := Lib.hid hF; have HT := Lib.hid ht; have HR := Lib.hid hrt; have HS := Lib.hid hs; have HX := Lib.hid hxs; have HOK := Lib.hid OK1.out.nw; have hsa := OK1.out.a
            have HS1 := Lib.hid hS1
            clear e0 e1 hF ht hrt hs hl hxs OK1 hS1
            have HOUT := Lib.hid (show ∀ w', stripE hd S1.a n1 xs m = xs.take m → Below wr.heap.size wr w' → NfAt w0 lo g s hd (some adx) (n1 + 1) c0 A1 n1 c1 A2 n2 c2 (stripN hd n1 S) w' from fun w' ho hb => HFIN.out _ ((hL.out.out (by rw [HX.out]; exact ho)).world hb))
            clear HFIN
            by_cases h0 : m = 0
            · have g0 : ((m : Int) == 0) = true := by simp [h0]
              have HO := Lib.hid (HOUT.out)
              have HM := Lib.hid h0
              clear h0
              go_wp2_with fail
              refine bodyPost_ret (results_none rfl _ _ _) rfl ?_
              exact ⟨⟨_, rfl⟩, HO.out _ (by rw [HM.out]; rfl) (by first | exact below_size | exact below_drewN below_size _)⟩
            obtain ⟨m', rfl⟩ : ∃ m', m = m' + 1 := ⟨m - 1, by omega⟩
            have g0 : (((m' + 1 : Nat) : Int) == 0) = false := by simp; omega
            obtain ⟨adt, y, rfl, hab, hy, hcy⟩ := HR.out.at_ (k := m') (by omega)
            have v1 : IntKind.i64.wrap (((m' + 1 : Nat) : Int) - 1) = (m' : Int) := by rw [IntWalk.i64_in _ (by omega)]; omega
            have HY := Lib.hid (show xs.getD m' 0 = y by rw [List.getElem?_take] at hy; simp at hy; rw [List.getD_eq_getElem?_getD, hy]; rfl)
            clear hy
            by_cases h1 : y = 0
            · have g1 : (y != 0) = false := by simp [h1]
              have HNX := Lib.hid (show ¬ (hd = (n1 : Int) ∧ S1.a = (m' : Int)) → stripE hd S1.a n1 xs m' = stripE hd S1.a n1 xs xs.length from fun h2 => by rw [← HS.out, stripE, HY.out, if_pos ⟨h1, h2⟩])
              clear h1
              by_cases h2 : hd = (n1 : Int) ∧ S1.a = (m' : Int)
              · have hq : underB hd S1.a n1 m' = true := by simp [underB, h2]
                have HO := Lib.hid (HOUT.out · (by rw [stripE, if_neg fun h => h.2 h2]))
                clear h2 HOUT
                go_wp2_with fail
                refine (specUnder_c g s hd S1.a _ _ _ its0 _ _ _ its1 _ _ _ _ n1 m' true _ (by exact HF.out.form) hq).mono ?_
                rintro e w1 ⟨rfl, ⟨mm, rfl⟩⟩
                go_wp2_with fail
                refine bodyPost_ret (results_none rfl _ _ _) rfl ?_
                exact ⟨⟨_, rfl⟩, HO.out _ (by exact below_drewN below_size _)⟩
              · have hq : underB hd S1.a n1 m' = false := underB_f h2
                have HN2 := Lib.hid (HNX.out h2)
                clear h2 HOUT HNX
                have E2 := Lib.hid (show ∀ B c, (its0.set n1 ⟨B, m', c, xs.take m'⟩).map It.xs = S1.ws.set n1 (xs.take m') by intro B c; rw [List.map_set, E0.out, List.set_set])
                have F1 := Lib.hid (show FormW w0 lo (wr.setCell (adx.add n1) (.slice (some adt) m' tc)) g s hd S1.a (some adx) (n1 + 1) c0 (its0.set n1 ⟨some adt, m', tc, xs.take m'⟩) A1 n1 c1 its1 A2 n2 c2 S1.os from
                  HF.out.subW (t' := ⟨some adt, m', tc, xs.take m'⟩) HT.out ⟨0, by show 0 + m' ≤ m' + 1; omega, by show xs.take m' = ((xs.take (m' + 1)).drop 0).take m'; rw [List.drop_zero, List.take_take, Nat.min_eq_left (by omega)], fun _ ad e => by simp only at e; rw [e, addr0]⟩ (by show m' ≤ tc; omega))
                have OUT := Lib.hid (show ∀ w' B c, FormW w0 lo w' g s hd S1.a (some adx) (n1 + 1) c0 (its0.set n1 ⟨B, m', c, xs.take m'⟩) A1 n1 c1 its1 A2 n2 c2 S1.os → RAt w0 lo g s hd (some adx) (n1 + 1) c0 A1 n1 c1 A2 n2 c2 S1 m' w' ∧ lenAt w' (adx.add n1) = m' from fun w' B c hF' => by
                  refine ⟨⟨⟨_, its1, by rw [HX.out]; exact E2.out B c, E1.out, hF'⟩, by rw [HX.out]; exact HN2.out, by rw [HX.out]; omega⟩, ?_⟩
                  obtain ⟨ad, t', e, ht', hct', _⟩ := hF'.wall (i := n1) (by omega)
                  injection e with e; subst e
                  have hlen : n1 < its0.length := (List.getElem?_eq_some_iff.1 HT.out).1
                  rw [List.getElem?_set_self hlen] at ht'
                  injection ht' with ht'; subst ht'
                  exact lenAt_of hct')
                have M0 := Lib.hid (lenAt_of hct)
                clear HT E0
                go_wp2_with fail
                refine (specUnder_c g s hd S1.a _ _ _ its0 _ _ _ its1 _ _ _ _ n1 m' false _ (by exact HF.out.form) hq).mono ?_
                rintro e w1 ⟨rfl, ⟨mm, rfl⟩⟩
                go_wp2_with fail
                have x0 := Ext.cell (show (wr.drewN mm).cell? _ = _ from k3); have x1 := Ext.cell (show (wr.drewN mm).cell? _ = _ from hct)
                have HRL := Lib.hid (show RdI wr (some adt) m' (xs.take m') from by have h := HR.out.take (show m' ≤ m' + 1 by omega); rwa [List.take_take, Nat.min_eq_left (by omega)] at h)
                refine Mix.wp_region_mix [0, 0, 0, 3, 0, 0, 0, 0, 3, 0, 0, 3, 0, 0, 0, 1, 0, 2] (fun w' => ∃ x : Ext (wr.drewN mm), w' = x.w) (by kernel_rfl) (by kernel_rfl) (InExt.drew _) ?_
                repeat (first | (refine Mix.wpMix_read (by rfl) ?_; go_big_quiet_step (fail); refine wpQuiet_nil ?_) | (refine Mix.wpMix_pure (by rfl) ?_; go_big_quiet_step (fail); refine wpQuiet_nil ?_))
                refine Mix.wpMix_chg (by rfl) (fun K hK => ?_)
                go_wp2_with fail
                refine (l00OwnX_c (some adt) m' tc (xs.take m') _ (by exact HRL.out) (by omega)).mono ?_
                rintro e w2 ⟨AX, cX, rfl, ho, hb⟩
                have EB := Lib.hid (show Below (wr.drewN mm).heap.size (wr.drewN mm) w2 from ⟨hb.os, hb.tape, hb.output, hb.size, hb.block⟩)
                have G0 := Lib.hid (HF.out.newW (k := n1) (t' := ⟨AX, m', cX, xs.take m'⟩) (by omega) (w' := w2) ⟨hb.os, hb.tape, hb.output, hb.size, hb.block⟩ (by have := ho.wrK; rw [Nat.mul_one] at this; exact this.wider (Nat.le_refl _) (Nat.le_refl _)) ho.cap)
                have hct2 := keepc (W := wr) (w' := w2) ⟨hb.os, hb.tape, hb.output, hb.size, hb.block⟩ hct
                have hfz2 : w2.frozen? (adx.add n1) = false := (hb.frozen (p := adx.add n1) (World.block_lt_of_cell? wr _ hct)).trans hfz
                clear ho hb
                go_wp2_with fail
                refine hK _ _ ⟨⟨_, EB.out⟩, rfl⟩ ?_
                clear hK K
                repeat (first | (refine Mix.wpMix_read (by rfl) ?_; go_big_quiet_step (fail); refine wpQuiet_nil ?_) | (refine Mix.wpMix_pure (by rfl) ?_; go_big_quiet_step (fail); refine wpQuiet_nil ?_))
                refine Mix.wpMix_tail (by rfl) (fun K hK => ?_)
                go_wp2_with fail
                refine hK _ _ ?_
                clear hK K
                (refine Mix.wpMix_nil ?_; try simp only [Exit.then])
                clear x0 x1 k1 k2 k3 hct2 hfz2
                have O2 := OUT.out _ AX cX G0.out
                have F2 := Lib.hid O2
                clear G0 hct hcy O2
                go_wp2_with fail
                go_roundw
                case rel => exact ⟨m', by rw [HS1.out]; exact F2.out.1⟩
                case measure => have q1 := F2.out.2; have q2 := M0.out; rw [q1, q2]; all_goals omega
            · have g1 : (y != 0) = true := by simp [h1]
              have HO := Lib.hid (HOUT.out · (by rw [stripE, HY.out, if_neg fun h => h1 h.1]))
              clear h1 HOUT
              go_wp2_with fail
              refine bodyPost_ret (results_none rfl _ _ _) rfl ?_
              exact ⟨⟨_, rfl⟩, HO.out _ (by first | exact below_size | exact below_drewN below_size _)⟩
        · have g1 : (y == 0) = true := by simp [h1]
          have hq : underB hd a 0 0 = false := underB_f h2
          have HS2 := Lib.hid (show stripF hd l (if hd = 0 then a - 1 else a) = stripF hd (S.ws.getD 0 []) S.a by rw [← HS.out, HX.out, stripF_hit h1 h2])
          have hll : l.length + 1 = t.n := by rw [← HTL.out, HX.out, List.length_cons]
          have HRR := Lib.hid (show RdI wr (some (adt.add 1)) (t.n - 1) l from by
            have h := HR.out
            rw [HA.out] at h
            have h := h.drop (show 1 ≤ t.n by omega)
            rwa [HX.out, List.drop_one, List.tail_cons] at h)
          have FdS := Lib.hid (show ∀ w' B c, Below wr.heap.size wr w' → Wr w' wr.heap.size w'.heap.size B (t.n - 1) (l.map i64) → t.n - 1 ≤ c → FormW w0 lo (w'.setCell adx (.slice B (t.n - 1) c)) g s hd a (some adx) (n1 + 1) c0 (its0.set 0 ⟨B, t.n - 1, c, l⟩) A1 n1 c1 its1 A2 n2 c2 S.os from fun w' B c hb hw hc => by
            have := HF.out.newW (k := 0) (t' := ⟨B, t.n - 1, c, l⟩) (by omega) hb hw hc
            rw [addr0] at this; exact this)
          have E2 := Lib.hid (show ∀ B n c, (its0.set 0 ⟨B, n, c, l⟩).map It.xs = S.ws.set 0 l by intro B n c; rw [List.map_set, E0.out, List.set_set])
          have FF := Lib.hid (show ∀ B c, (0 < t.n - 1 → B = some (adt.add 1)) → t.n - 1 ≤ c → FormW w0 lo (wr.setCell adx (.slice B (t.n - 1) c)) g s hd a (some adx) (n1 + 1) c0 (its0.set 0 ⟨B, t.n - 1, c, l⟩) A1 n1 c1 its1 A2 n2 c2 S.os from fun B c hB hc => by
            have := HF.out.subW (t' := ⟨B, t.n - 1, c, l⟩) HT.out ⟨1, by show 1 + (t.n - 1) ≤ t.n; omega, by rw [HX.out]; show l = ((y :: l).drop 1).take (t.n - 1); rw [List.drop_one, List.tail_cons, List.take_of_length_le (by omega)], fun h0 ad e => by rw [HA.out] at e; injection e with e; rw [← e]; exact hB h0⟩ hc
            rw [addr0] at this; exact this)
          have hll' : t.n = l.length + 1 := hll.symm
          clear h1 h2 HT HR E0 HS hL HTL HA HX
          obtain ⟨tA, tn, tc, tx⟩ := t
          simp only at hct g0 FF FdS HRR hll' hx4 ha0 h0 htc
          clear hll
          subst hll'
          have hct0 := Lib.hid hct
          by_cases hc1 : tc = 1
          · obtain rfl : l = [] := List.length_eq_zero_iff.1 (by omega)
            subst hc1
            have F1 := Lib.hid (FF.out (some adt) 0 (fun h => absurd h (by simp)) (by simp))
            have EE := Lib.hid (E2.out (some adt) 0 0)
            have HRL := Lib.hid (show RdI wr (some adt) (0) ([]) from by first | exact RdI.nil | exact HRR.out)
            go_wp2_with fail
            refine (specUnder_c g s hd a _ _ _ its0 _ _ _ its1 _ _ _ _ 0 0 false _ (by exact HF.out.form) hq).mono ?_
            rintro e w1 ⟨rfl, ⟨m1, rfl⟩⟩
            have x0 := Ext.cell (show (wr.drewN m1).cell? _ = _ from k3); have x1 := Ext.cell (show (wr.drewN m1).cell? _ = _ from hct)
            go_wp2_with fail
            refine Mix.wp_region_mix [0, 0, 0, 3, 0, 0, 0, 3, 0, 3, 0, 1, 0, 2] (fun w' => ∃ x : Ext (wr.drewN m1), w' = x.w) (by kernel_rfl) (by kernel_rfl) (InExt.drew _) ?_
            repeat (first | (refine Mix.wpMix_read (by rfl) ?_; go_big_quiet_step (fail); refine wpQuiet_nil ?_) | (refine Mix.wpMix_pure (by rfl) ?_; go_big_quiet_step (fail); refine wpQuiet_nil ?_))
            refine Mix.wpMix_chg (by rfl) (fun K hK => ?_)
            go_wp2_with fail
            refine (l00OwnX_c (some adt) (0) (0) ([]) _ (by exact HRL.out) (by simp at hx4 ⊢; try omega)).mono ?_
            rintro e w2 ⟨AX, cX, rfl, ho, hb⟩
            have EB := Lib.hid (show Below (wr.drewN m1).heap.size (wr.drewN m1) w2 from ⟨hb.os, hb.tape, hb.output, hb.size, hb.block⟩)
            have G0 := Lib.hid (FdS.out w2 AX cX ⟨hb.os, hb.tape, hb.output, hb.size, hb.block⟩ (by have := ho.wrK; rw [Nat.mul_one] at this; exact this.wider (Nat.le_refl _) (Nat.le_refl _)) ho.cap)
            have hct2 := keepc (W := wr) (w' := w2) ⟨hb.os, hb.tape, hb.output, hb.size, hb.block⟩ hct
            have hfz2 : w2.frozen? adx = false := (hb.frozen (p := adx) (World.block_lt_of_cell? wr _ hct)).trans hfz
            clear ho hb
            go_wp2_with fail
            refine hK _ _ ⟨⟨_, EB.out⟩, rfl⟩ ?_
            clear hK K
            repeat (first | (refine Mix.wpMix_read (by rfl) ?_; go_big_quiet_step (fail); refine wpQuiet_nil ?_) | (refine Mix.wpMix_pure (by rfl) ?_; go_big_quiet_step (fail); refine wpQuiet_nil ?_))
            refine Mix.wpMix_tail (by rfl) (fun K hK => ?_)
            go_wp2_with fail
            refine hK _ _ ?_
            clear hK K
            (refine Mix.wpMix_nil ?_; try simp only [Exit.then])
            clear x0 x1 hct2 hfz2
            simp only [Nat.add_sub_cancel] at G0
            obtain ⟨w3, hw3⟩ : ∃ w3, w2.setCell adx (.slice AX (0) cX) = w3 := ⟨_, rfl⟩
            have G1 := Lib.hid (show FormW w0 lo w3 g s hd a (some adx) (n1 + 1) c0 (its0.set 0 ⟨AX, 0, cX, []⟩) A1 n1 c1 its1 A2 n2 c2 S.os by rw [← hw3]; exact G0.out)
            rw [hw3]
            clear hw3 G0
            have EE := Lib.hid (E2.out AX (0) cX)
            have m1' := G1.out.form.d1; have m2' := G1.out.form.d2; have fa' := G1.out.frz (k := 2) (by omega)
            clear k0 k1 k2 k3 k4 k5 fa HF hct
            have OUT := Lib.hid (show ∀ a' w', (if hd = 0 then a - 1 else a) = a' → FormW w0 lo w' g s hd a' (some adx) (n1 + 1) c0 (its0.set 0 ⟨AX, 0, cX, []⟩) A1 n1 c1 its1 A2 n2 c2 S.os → LAt w0 lo g s hd (some adx) (n1 + 1) c0 A1 n1 c1 A2 n2 c2 S ([]) a' w' ∧ lenAt w' adx = 0 from fun a' w' ha' hF' => by
              refine ⟨⟨⟨_, its1, EE.out, E1.out, hF'⟩, by rw [← ha']; exact HS2.out, by first | (simp; done) | (simp at hx4 ⊢; omega), by split at ha' <;> first | (simp at ha0 ⊢; omega) | (simp at ha0 ⊢; done), by split at ha' <;> omega⟩, ?_⟩
              obtain ⟨ad, t', e, ht', hct', _⟩ := hF'.wall (i := 0) (by omega)
              injection e with e; subst e
              rw [addr0] at hct'
              have hlen : 0 < its0.length := by have := congrArg List.length EE.out; rw [List.length_map, List.length_set, List.length_set] at this; have := OK.out.nw; omega
              rw [List.getElem?_set_self hlen] at ht'
              injection ht' with ht'; subst ht'
              exact lenAt_of hct')
            have M0 := Lib.hid (lenAt_of hct0.out)
            by_cases hz : hd = 0
            · have g5 : (hd == 0) = true := by simp [hz]
              have v5 : IntKind.i64.wrap (a - 1) = a - 1 := IntWalk.i64_in _ (by omega)
              have HZ := Lib.hid (show (if hd = 0 then a - 1 else a) = a - 1 from if_pos hz)
              clear hz
              go_wp2_with fail
              go_roundw
              case rel => exact ⟨[], a - 1, (OUT.out _ _ HZ.out (G1.out.setA (a - 1))).1⟩
              case measure => have q1 := (OUT.out _ _ HZ.out (G1.out.setA (a - 1))).2; have q2 := M0.out; rw [q1, q2]; all_goals omega
            · have g5 : (hd == 0) = false := by simp [hz]
              have HZ := Lib.hid (show (if hd = 0 then a - 1 else a) = a from if_neg hz)
              clear hz
              go_wp2_with fail
              go_roundw
              case rel => exact ⟨[], a, (OUT.out _ _ HZ.out G1.out).1⟩
              case measure => have q1 := (OUT.out _ _ HZ.out G1.out).2; have q2 := M0.out; rw [q1, q2]; all_goals omega
          · have F1 := Lib.hid (FF.out (some (adt.add 1)) (tc - 1) (fun _ => rfl) (by omega))
            have EE := Lib.hid (E2.out (some (adt.add 1)) l.length (tc - 1))
            have HRL := Lib.hid (show RdI wr (some (adt.add 1)) (l.length) (l) from by first | exact RdI.nil | exact HRR.out)
            go_wp2_with fail
            refine (specUnder_c g s hd a _ _ _ its0 _ _ _ its1 _ _ _ _ 0 0 false _ (by exact HF.out.form) hq).mono ?_
            rintro e w1 ⟨rfl, ⟨m1, rfl⟩⟩
            have x0 := Ext.cell (show (wr.drewN m1).cell? _ = _ from k3); have x1 := Ext.cell (show (wr.drewN m1).cell? _ = _ from hct)
            go_wp2_with fail
            refine Mix.wp_region_mix [0, 0, 0, 3, 0, 0, 0, 3, 0, 3, 0, 1, 0, 2] (fun w' => ∃ x : Ext (wr.drewN m1), w' = x.w) (by kernel_rfl) (by kernel_rfl) (InExt.drew _) ?_
            repeat (first | (refine Mix.wpMix_read (by rfl) ?_; go_big_quiet_step (fail); refine wpQuiet_nil ?_) | (refine Mix.wpMix_pure (by rfl) ?_; go_big_quiet_step (fail); refine wpQuiet_nil ?_))
            refine Mix.wpMix_chg (by rfl) (fun K hK => ?_)
            go_wp2_with fail
            refine (l00OwnX_c (some (adt.add 1)) (l.length) (tc - 1) (l) _ (by exact HRL.out) (by simp at hx4 ⊢; try omega)).mono ?_
            rintro e w2 ⟨AX, cX, rfl, ho, hb⟩
            have EB := Lib.hid (show Below (wr.drewN m1).heap.size (wr.drewN m1) w2 from ⟨hb.os, hb.tape, hb.output, hb.size, hb.block⟩)
            have G0 := Lib.hid (FdS.out w2 AX cX ⟨hb.os, hb.tape, hb.output, hb.size, hb.block⟩ (by have := ho.wrK; rw [Nat.mul_one] at this; exact this.wider (Nat.le_refl _) (Nat.le_refl _)) ho.cap)
            have hct2 := keepc (W := wr) (w' := w2) ⟨hb.os, hb.tape, hb.output, hb.size, hb.block⟩ hct
            have hfz2 : w2.frozen? adx = false := (hb.frozen (p := adx) (World.block_lt_of_cell? wr _ hct)).trans hfz
            clear ho hb
            go_wp2_with fail
            refine hK _ _ ⟨⟨_, EB.out⟩, rfl⟩ ?_
            clear hK K
            repeat (first | (refine Mix.wpMix_read (by rfl) ?_; go_big_quiet_step (fail); refine wpQuiet_nil ?_) | (refine Mix.wpMix_pure (by rfl) ?_; go_big_quiet_step (fail); refine wpQuiet_nil ?_))
            refine Mix.wpMix_tail (by rfl) (fun K hK => ?_)
            go_wp2_with fail
            refine hK _ _ ?_
            clear hK K
            (refine Mix.wpMix_nil ?_; try simp only [Exit.then])
            clear x0 x1 hct2 hfz2
            simp only [Nat.add_sub_cancel] at G0
            obtain ⟨w3, hw3⟩ : ∃ w3, w2.setCell adx (.slice AX (l.length) cX) = w3 := ⟨_, rfl⟩
            have G1 := Lib.hid (show FormW w0 lo w3 g s hd a (some adx) (n1 + 1) c0 (its0.set 0 ⟨AX, l.length, cX, l⟩) A1 n1 c1 its1 A2 n2 c2 S.os by rw [← hw3]; exact G0.out)
            rw [hw3]
            clear hw3 G0
            have EE := Lib.hid (E2.out AX (l.length) cX)
            have m1' := G1.out.form.d1; have m2' := G1.out.form.d2; have fa' := G1.out.frz (k := 2) (by omega)
            clear k0 k1 k2 k3 k4 k5 fa HF hct
            have OUT := Lib.hid (show ∀ a' w', (if hd = 0 then a - 1 else a) = a' → FormW w0 lo w' g s hd a' (some adx) (n1 + 1) c0 (its0.set 0 ⟨AX, l.length, cX, l⟩) A1 n1 c1 its1 A2 n2 c2 S.os → LAt w0 lo g s hd (some adx) (n1 + 1) c0 A1 n1 c1 A2 n2 c2 S (l) a' w' ∧ lenAt w' adx = l.length from fun a' w' ha' hF' => by
              refine ⟨⟨⟨_, its1, EE.out, E1.out, hF'⟩, by rw [← ha']; exact HS2.out, by first | (simp; done) | (simp at hx4 ⊢; omega), by split at ha' <;> first | (simp at ha0 ⊢; omega) | (simp at ha0 ⊢; done), by split at ha' <;> omega⟩, ?_⟩
              obtain ⟨ad, t', e, ht', hct', _⟩ := hF'.wall (i := 0) (by omega)
              injection e with e; subst e
              rw [addr0] at hct'
              have hlen : 0 < its0.length := by have := congrArg List.length EE.out; rw [List.length_map, List.length_set, List.length_set] at this; have := OK.out.nw; omega
              rw [List.getElem?_set_self hlen] at ht'
              injection ht' with ht'; subst ht'
              exact lenAt_of hct')
            have M0 := Lib.hid (lenAt_of hct0.out)
            by_cases hz : hd = 0
            · have g5 : (hd == 0) = true := by simp [hz]
              have v5 : IntKind.i64.wrap (a - 1) = a - 1 := IntWalk.i64_in _ (by omega)
              have HZ := Lib.hid (show (if hd = 0 then a - 1 else a) = a - 1 from if_pos hz)
              clear hz
              go_wp2_with fail
              go_roundw
              case rel => exact ⟨l, a - 1, (OUT.out _ _ HZ.out (G1.out.setA (a - 1))).1⟩
              case measure => have q1 := (OUT.out _ _ HZ.out (G1.out.setA (a - 1))).2; have q2 := M0.out; rw [q1, q2]; all_goals omega
            · have g5 : (hd == 0) = false := by simp [hz]
              have HZ := Lib.hid (show (if hd = 0 then a - 1 else a) = a from if_neg hz)
              clear hz
              go_wp2_with fail
              go_roundw
              case rel => exact ⟨l, a, (OUT.out _ _ HZ.out G1.out).1⟩
              case measure => have q1 := (OUT.out _ _ HZ.out G1.out).2; have q2 := M0.out; rw [q1, q2]; all_goals omega
      · have HE := Lib.hid (hL.out.out (by rw [HX.out, stripF_x h1]))
        have g1 : (y == 0) = false := by simp [h1]
        clear h1
        go_wp2_with fail
        rw [show (n1 : Int) = ((n1 : Nat) : Int) from rfl]
        have HE1 := HE
        have OK1 := Lib.hid (OK.out.stripL (hd := hd))
        clear HE k0 k1 k2 k3 k4 k5 hct hfz fa E0 E1 HF HT HR HS HTL hL
        go_wp2_with fail
        go_loopw [] (fun wr => ∃ m : Nat, Hid (RAt w0 lo g s hd (some adx) (n1 + 1) c0 A1 n1 c1 A2 n2 c2 (stripL hd S) m wr)) (fun wr => lenAt wr (adx.add n1))
        case atStart => exact ⟨_, RAt.start (by first | exact HE1.out | exact HE1.out.world (below_drewN below_size _)) OK1.out⟩
        case round =>
          clear HE1
          obtain ⟨m, hL⟩ := hrel
          have HFIN := Lib.hid (show ∀ w', NfAt w0 lo g s hd (some adx) (n1 + 1) c0 A1 n1 c1 A2 n2 c2 (stripR hd n1 (stripL hd S)) w' → NfAt w0 lo g s hd (some adx) (n1 + 1) c0 A1 n1 c1 A2 n2 c2 (stripN hd n1 S) w' from fun _ h => h)
          obtain ⟨S1, hS1⟩ : ∃ S1, stripL hd S = S1 := ⟨_, rfl⟩
          rw [hS1] at hL OK1 HFIN
          have hL' := hL.out
          obtain ⟨⟨its0, its1, e0, e1, hF⟩, hs, hm⟩ := hL'
          simp only at e0 e1 hF
          obtain ⟨ad, t, e, ht, hct, hrt, htc, hfz⟩ := hF.wall (i := n1) (by omega)
          injection e with e; subst e
          obtain ⟨xs, hxs⟩ : ∃ xs, S1.ws.getD n1 [] = xs := ⟨_, rfl⟩
          have hxl : xs.length ≤ 400 := by have h1 := sumW_at S1.ws n1; have h2 := OK1.out.sum; rw [hxs] at h1; omega
          rw [hxs] at e0 hs hm
          have htx : t.xs = xs.take m := by
            rw [← map_at e0 ht]
            have h1 := OK1.out.nw
            simp [List.getD_eq_getElem?_getD, show n1 < S1.ws.length by omega]
          have hl := hrt.len
          obtain ⟨tA, tn, tc, tx⟩ := t
          simp only at hct hrt htc htx hl
          subst htx
          obtain rfl : m = tn := by rw [List.length_take] at hl; omega
          have k1 := hF.form.d1; have k2 := hF.form.d2; have k3 := hF.form.d3
          have E0 := Lib.hid e0; have E1 := Lib.hid e1; have HF := Lib.hid hF; have HT := Lib.hid ht; have HR := Lib.hid hrt; have HS := Lib.hid hs; have HX := Lib.hid hxs; have HOK := Lib.hid OK1.out.nw; have hsa := OK1.out.a
          have HS1 := Lib.hid hS1
          clear e0 e1 hF ht hrt hs hl hxs OK1 hS1
          have HOUT := Lib.hid (show ∀ w', stripE hd S1.a n1 xs m = xs.take m → Below wr.heap.size wr w' → NfAt w0 lo g s hd (some adx) (n1 + 1) c0 A1 n1 c1 A2 n2 c2 (stripN hd n1 S) w' from fun w' ho hb => HFIN.out _ ((hL.out.out (by rw [HX.out]; exact ho)).world hb))
          clear HFIN
          by_cases h0 : m = 0
          · have g0 : ((m : Int) == 0) = true := by simp [h0]
            have HO := Lib.hid (HOUT.out)
            have HM := Lib.hid h0
            clear h0
            go_wp2_with fail
            refine bodyPost_ret (results_none rfl _ _ _) rfl ?_
            exact ⟨⟨_, rfl⟩, HO.out _ (by rw [HM.out]; rfl) (by first | exact below_size | exact below_drewN below_size _)⟩
          obtain ⟨m', rfl⟩ : ∃ m', m = m' + 1 := ⟨m - 1, by omega⟩
          have g0 : (((m' + 1 : Nat) : Int) == 0) = false := by simp; omega
          obtain ⟨adt, y, rfl, hab, hy, hcy⟩ := HR.out.at_ (k := m') (by omega)
          have v1 : IntKind.i64.wrap (((m' + 1 : Nat) : Int) - 1) = (m' : Int) := by rw [IntWalk.i64_in _ (by omega)]; omega
          have HY := Lib.hid (show xs.getD m' 0 = y by rw [List.getElem?_take] at hy; simp at hy; rw [List.getD_eq_getElem?_getD, hy]; rfl)
          clear hy
          by_cases h1 : y = 0
          · have g1 : (y != 0) = false := by simp [h1]
            have HNX := Lib.hid (show ¬ (hd = (n1 : Int) ∧ S1.a = (m' : Int)) → stripE hd S1.a n1 xs m' = stripE hd S1.a n1 xs xs.length from fun h2 => by rw [← HS.out, stripE, HY.out, if_pos ⟨h1, h2⟩])
            clear h1
            by_cases h2 : hd = (n1 : Int) ∧ S1.a = (m' : Int)
            · have hq : underB hd S1.a n1 m' = true := by simp [underB, h2]
              have HO := Lib.hid (HOUT.out · (by rw [stripE, if_neg fun h => h.2 h2]))
              clear h2 HOUT
              go_wp2_with fail
              refine (specUnder_c g s hd S1.a _ _ _ its0 _ _ _ its1 _ _ _ _ n1 m' true _ (by exact HF.out.form) hq).mono ?_
              rintro e w1 ⟨rfl, ⟨mm, rfl⟩⟩
              go_wp2_with fail
              refine bodyPost_ret (results_none rfl _ _ _) rfl ?_
              exact ⟨⟨_, rfl⟩, HO.out _ (by exact below_drewN below_size _)⟩
            · have hq : underB hd S1.a n1 m' = false := underB_f h2
              have HN2 := Lib.hid (HNX.out h2)
              clear h2 HOUT HNX
              have E2 := Lib.hid (show ∀ B c, (its0.set n1 ⟨B, m', c, xs.take m'⟩).map It.xs = S1.ws.set n1 (xs.take m') by intro B c; rw [List.map_set, E0.out, List.set_set])
              have F1 := Lib.hid (show FormW w0 lo (wr.setCell (adx.add n1) (.slice (some adt) m' tc)) g s hd S1.a (some adx) (n1 + 1) c0 (its0.set n1 ⟨some adt, m', tc, xs.take m'⟩) A1 n1 c1 its1 A2 n2 c2 S1.os from
                HF.out.subW (t' := ⟨some adt, m', tc, xs.take m'⟩) HT.out ⟨0, by show 0 + m' ≤ m' + 1; omega, by show xs.take m' = ((xs.take (m' + 1)).drop 0).take m'; rw [List.drop_zero, List.take_take, Nat.min_eq_left (by omega)], fun _ ad e => by simp only at e; rw [e, addr0]⟩ (by show m' ≤ tc; omega))
              have OUT := Lib.hid (show ∀ w' B c, FormW w0 lo w' g s hd S1.a (some adx) (n1 + 1) c0 (its0.set n1 ⟨B, m', c, xs.take m'⟩) A1 n1 c1 its1 A2 n2 c2 S1.os → RAt w0 lo g s hd (some adx) (n1 + 1) c0 A1 n1 c1 A2 n2 c2 S1 m' w' ∧ lenAt w' (adx.add n1) = m' from fun w' B c hF' => by
                refine ⟨⟨⟨_, its1, by rw [HX.out]; exact E2.out B c, E1.out, hF'⟩, by rw [HX.out]; exact HN2.out, by rw [HX.out]; omega⟩, ?_⟩
                obtain ⟨ad, t', e, ht', hct', _⟩ := hF'.wall (i := n1) (by omega)
                injection e with e; subst e
                have hlen : n1 < its0.length := (List.getElem?_eq_some_iff.1 HT.out).1
                rw [List.getElem?_set_self hlen] at ht'
                injection ht' with ht'; subst ht'
                exact lenAt_of hct')
              have M0 := Lib.hid (lenAt_of hct)
              clear HT E0
              go_wp2_with fail
              refine (specUnder_c g s hd S1.a _ _ _ its0 _ _ _ its1 _ _ _ _ n1 m' false _ (by exact HF.out.form) hq).mono ?_
              rintro e w1 ⟨rfl, ⟨mm, rfl⟩⟩
              go_wp2_with fail
              have x0 := Ext.cell (show (wr.drewN mm).cell? _ = _ from k3); have x1 := Ext.cell (show (wr.drewN mm).cell? _ = _ from hct)
              have HRL := Lib.hid (show RdI wr (some adt) m' (xs.take m') from by have h := HR.out.take (show m' ≤ m' + 1 by omega); rwa [List.take_take, Nat.min_eq_left (by omega)] at h)
              refine Mix.wp_region_mix [0, 0, 0, 3, 0, 0, 0, 0, 3, 0, 0, 3, 0, 0, 0, 1, 0, 2] (fun w' => ∃ x : Ext (wr.drewN mm), w' = x.w) (by kernel_rfl) (by kernel_rfl) (InExt.drew _) ?_
              repeat (first | (refine Mix.wpMix_read (by rfl) ?_; go_big_quiet_step (fail); refine wpQuiet_nil ?_) | (refine Mix.wpMix_pure (by rfl) ?_; go_big_quiet_step (fail); refine wpQuiet_nil ?_))
              refine Mix.wpMix_chg (by rfl) (fun K hK => ?_)
              go_wp2_with fail
              refine (l00OwnX_c (some adt) m' tc (xs.take m') _ (by exact HRL.out) (by omega)).mono ?_
              rintro e w2 ⟨AX, cX, rfl, ho, hb⟩
              have EB := Lib.hid (show Below (wr.drewN mm).heap.size (wr.drewN mm) w2 from ⟨hb.os, hb.tape, hb.output, hb.size, hb.block⟩)
              have G0 := Lib.hid (HF.out.newW (k := n1) (t' := ⟨AX, m', cX, xs.take m'⟩) (by omega) (w' := w2) ⟨hb.os, hb.tape, hb.output, hb.size, hb.block⟩ (by have := ho.wrK; rw [Nat.mul_one] at this; exact this.wider (Nat.le_refl _) (Nat.le_refl _)) ho.cap)
              have hct2 := keepc (W := wr) (w' := w2) ⟨hb.os, hb.tape, hb.output, hb.size, hb.block⟩ hct
              have hfz2 : w2.frozen? (adx.add n1) = false := (hb.frozen (p := adx.add n1) (World.block_lt_of_cell? wr _ hct)).trans hfz
              clear ho hb
              go_wp2_with fail
              refine hK _ _ ⟨⟨_, EB.out⟩, rfl⟩ ?_
              clear hK K
              repeat (first | (refine Mix.wpMix_read (by rfl) ?_; go_big_quiet_step (fail); refine wpQuiet_nil ?_) | (refine Mix.wpMix_pure (by rfl) ?_; go_big_quiet_step (fail); refine wpQuiet_nil ?_))
              refine Mix.wpMix_tail (by rfl) (fun K hK => ?_)
              go_wp2_with fail
              refine hK _ _ ?_
              clear hK K
              (refine Mix.wpMix_nil ?_; try simp only [Exit.then])
              clear x0 x1 k1 k2 k3 hct2 hfz2
              have O2 := OUT.out _ AX cX G0.out
              have F2 := Lib.hid O2
              clear G0 hct hcy O2
              go_wp2_with fail
              go_roundw
              case rel => exact ⟨m', by rw [HS1.out]; exact F2.out.1⟩
              case measure => have q1 := F2.out.2; have q2 := M0.out; rw [q1, q2]; all_goals omega
          · have g1 : (y != 0) = true := by simp [h1]
            have HO := Lib.hid (HOUT.out · (by rw [stripE, HY.out, if_neg fun h => h1 h.1]))
            clear h1 HOUT
            go_wp2_with fail
            refine bodyPost_ret (results_none rfl _ _ _) rfl ?_
            exact ⟨⟨_, rfl⟩, HO.out _ (by first | exact below_size | exact below_drewN below_size _)⟩
end Go.Proofs.Ytmmgejnhfpfmnaa
