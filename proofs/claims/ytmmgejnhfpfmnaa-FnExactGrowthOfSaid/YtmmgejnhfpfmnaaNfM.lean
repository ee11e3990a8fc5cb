/-
  Contracts of chapter 27 (NormalFormula): the normal form (the program's).
-/
import Derived.Test.YtmmgejnhfpfmnaaNfRs
import Derived.Test.YtmmgejnhfpfmnaaNfAs
import Derived.Test.YtmmgejnhfpfmnaaNfC
import Derived.Test.YtmmgejnhfpfmnaaNfRi
import Derived.Test.YtmmgejnhfpfmnaaNfAi
import Derived.Laws.EntriesVeiled
import Derived.Test.YtmmgejnhfpfmnaaFoO
import Derived.Test.YtmmgejnhfpfmnaaFmOk
namespace Go.Proofs.Ytmmgejnhfpfmnaa
open Go.RowKit

theorem loopN_succ (hd : Int) (f : Nat → NF → NF) (m i : Nat) (S : NF) : loopN hd f (m + 1) i S = loopN hd f m (i + 1) (roundN hd f i S) := rfl
section
variable {w0 w w' : World} {lo g : Nat} {s hd : Int} {A0 : Option Addr} {n0 c0 : Nat} {A1 : Option Addr} {n1 c1 : Nat} {A2 : Option Addr} {n2 c2 : Nat} {S : NF} {k i : Nat}
/-- what the question for the head wants -/
theorem NfAt.ask (h : NfAt w0 lo g s hd A0 n0 c0 A1 n1 c1 A2 n2 c2 S w) (hi : i < n0) : ∃ its0 its1 t, FormP w g s hd S.a A0 n0 c0 its0 A1 n1 c1 its1 A2 n2 c2 S.os ∧ its0[i]? = some t ∧ touchQ hd S.a i t.n = touchB hd i S := by
  obtain ⟨its0, its1, e0, e1, hF⟩ := h
  have hl := RdII.len hF.form.r0
  obtain ⟨t, ht⟩ : ∃ t, its0[i]? = some t := ⟨_, List.getElem?_eq_getElem (by omega)⟩
  refine ⟨its0, its1, t, hF.form, ht, ?_⟩
  have hx : S.ws[i]? = some t.xs := by rw [← e0, List.getElem?_map, ht]; rfl
  have hz := RdII.size hF.form.r0 (List.mem_of_getElem? ht)
  rw [touchB_eq hx, hz]
end
/-- one of the two loops: S is the tape ahead of round k -/
def LpAt (f : Nat → NF → NF) (w0 : World) (lo g : Nat) (s hd : Int) (A0 : Option Addr) (n0 c0 : Nat) (A1 : Option Addr) (n1 c1 : Nat) (A2 : Option Addr) (n2 c2 : Nat) (K : Nat) (T : NF) (k : Nat) (S : NF) (w : World) : Prop :=
  NfAt w0 lo g s hd A0 n0 c0 A1 n1 c1 A2 n2 c2 S w ∧ OkN n1 (K + 400 * k) S ∧ loopN hd f (n1 - k) k S = T
section
variable {f : Nat → NF → NF} {w0 w w' : World} {lo g : Nat} {s hd : Int} {A0 : Option Addr} {n0 c0 : Nat} {A1 : Option Addr} {n1 c1 : Nat} {A2 : Option Addr} {n2 c2 : Nat} {S T : NF} {k K i : Nat}
theorem LpAt.next (h : LpAt f w0 lo g s hd A0 n0 c0 A1 n1 c1 A2 n2 c2 K T k S w) (hk : k < n1) (hn : NfAt w0 lo g s hd A0 n0 c0 A1 n1 c1 A2 n2 c2 (roundN hd f k S) w') (ho : OkN n1 (K + 400 * k + 400) (roundN hd f k S)) : LpAt f w0 lo g s hd A0 n0 c0 A1 n1 c1 A2 n2 c2 K T (k + 1) (roundN hd f k S) w' := by
  refine ⟨hn, ho.more (by omega), ?_⟩
  have h3 := h.2.2
  rw [show n1 - k = (n1 - (k + 1)) + 1 by omega, loopN_succ] at h3
  exact h3
theorem LpAt.done (h : LpAt f w0 lo g s hd A0 n0 c0 A1 n1 c1 A2 n2 c2 K T n1 S w) : NfAt w0 lo g s hd A0 n0 c0 A1 n1 c1 A2 n2 c2 T w ∧ OkN n1 (K + 400 * n1) T := by
  have h3 := h.2.2
  rw [Nat.sub_self] at h3
  have e : S = T := h3
  subst e
  exact ⟨h.1, h.2.1⟩
end
theorem hjs0 {T : NF} {n1 k : Nat} {js0 : List It} {w0 w : World} {lo g : Nat} {s hd a : Int} {A0 : Option Addr} {n0 c0 : Nat} {A1 : Option Addr} {c1 : Nat} {its1 : List It} {A2 : Option Addr} {n2 c2 : Nat} {os : List Int} (ok : OkN n1 k T) (e : js0.map It.xs = T.ws) (h : FormW w0 lo w g s hd a A0 n0 c0 js0 A1 n1 c1 its1 A2 n2 c2 os) : ∀ t ∈ js0, t.n ≤ 1000000000 := by
  intro t ht
  have h1 := RdII.size h.form.r0 ht
  obtain ⟨i, hi⟩ := List.mem_iff_getElem?.1 ht
  have h2 := sumW_at (js0.map It.xs) i
  rw [List.getD_eq_getElem?_getD, List.getElem?_map, hi, e] at h2
  have h3 := ok.sum
  simp only [Option.map_some, Option.getD_some] at h2
  omega
theorem hjs1 {T : NF} {n1 k : Nat} {js1 : List It} {w0 w : World} {lo g : Nat} {s hd a : Int} {A0 : Option Addr} {n0 c0 : Nat} {its0 : List It} {A1 : Option Addr} {m1 c1 : Nat} {A2 : Option Addr} {n2 c2 : Nat} {os : List Int} (ok : OkN n1 k T) (e : js1.map It.xs = T.rs) (h : FormW w0 lo w g s hd a A0 n0 c0 its0 A1 m1 c1 js1 A2 n2 c2 os) : ∀ t ∈ js1, t.n ≤ 1000000000 := by
  intro t ht
  have h1 := RdII.size h.form.r1 ht
  have h2 := ok.rep t.xs (by rw [← e]; exact List.mem_map_of_mem ht)
  omega
/-- the normal form as a value, and whether it fits -/
def NvOut (s hd : Int) (n0 n1 n2 : Nat) (T : NF) (q : Bool) (w : World) (e : Ending) (w' : World) : Prop :=
  ∃ A0 c0 its0 A1 c1 its1 A2 c2, e = .returned (.tuple #[.agg #[i64 s, i64 hd, i64 T.a, .slice A0 n0 c0, .slice A1 n1 c1, .slice A2 n2 c2], .bool q]) ∧ its0.map It.xs = T.ws ∧ its1.map It.xs = T.rs ∧ (∀ t ∈ its0, t.n ≤ t.c) ∧ (∀ t ∈ its1, t.n ≤ t.c) ∧ WrS w' w.heap.size w'.heap.size (sgForm A0 n0 its0 A1 n1 its1 A2 n2 T.os) ∧ Below w.heap.size w w'
set_option maxHeartbeats 8000000 in
set_option maxRecDepth 100000 in
theorem l27Normal_c (gm : Nat) (sy st : Int) (A : Option Addr) (n cp : Nat) (rs : List Rule3) (gp : Nat) (s hd a : Int) (A0 : Option Addr) (n0 c0 : Nat) (its0 : List It) (A1 : Option Addr) (n1 c1 : Nat) (its1 : List It) (A2 : Option Addr) (n2 c2 : Nat) (os : List Int) (q : Bool) (w : World)
    (hM : MachP w gm sy st A n cp rs) (h : FormP w gp s hd a A0 n0 c0 its0 A1 n1 c1 its1 A2 n2 c2 os) (hsy : 2 ≤ sy ∧ sy ≤ 6) (hst : 1 ≤ st ∧ st ≤ 1000) (ok : OkN n1 0 ⟨a, its0.map It.xs, its1.map It.xs, os⟩) (hn1 : 1 ≤ n1 ∧ n1 ≤ 3) (hn0 : n0 = n1 + 1) (hn2 : n2 = n1)
    (hq : formB sy st s hd (normN hd n1 ⟨a, its0.map It.xs, its1.map It.xs, os⟩).a (normN hd n1 ⟨a, its0.map It.xs, its1.map It.xs, os⟩).ws (normN hd n1 ⟨a, its0.map It.xs, its1.map It.xs, os⟩).rs (normN hd n1 ⟨a, its0.map It.xs, its1.map It.xs, os⟩).os = q) :
    Calls Try.prog 72 #[.pointer (some ⟨gm, 0, none⟩), .pointer (some ⟨gp, 0, none⟩)] w (NvOut s hd n0 n1 n2 (normN hd n1 ⟨a, its0.map It.xs, its1.map It.xs, os⟩) q w) := by
  have hi0 : ∀ t ∈ its0, t.n ≤ 400 := fun t ht => by
    have h1 := RdII.size h.r0 ht
    obtain ⟨i, hi⟩ := List.mem_iff_getElem?.1 ht
    have h2 := sumW_at (its0.map It.xs) i
    rw [List.getD_eq_getElem?_getD, List.getElem?_map, hi] at h2
    have h3 := ok.sum
    simp only [Option.map_some, Option.getD_some] at h2
    simp only at h3
    omega
  have hi1 : ∀ t ∈ its1, t.n ≤ 20 := fun t ht => by
    have h1 := RdII.size h.r1 ht
    have h2 := ok.rep t.xs (List.mem_map_of_mem ht)
    omega
  obtain ⟨S0, hS0⟩ : ∃ S0 : NF, S0 = ⟨a, its0.map It.xs, its1.map It.xs, os⟩ := ⟨_, rfl⟩
  rw [← hS0] at hq ok ⊢
  obtain ⟨T, hT⟩ : ∃ T, normN hd n1 S0 = T := ⟨_, rfl⟩
  rw [hT] at hq ⊢
  have HT := Lib.hid hT; have HQ := Lib.hid hq; have HOK := Lib.hid ok; have HS0 := Lib.hid hS0
  obtain ⟨W, hW⟩ : ∃ W, w.alloc (.cells #[i64 0, i64 0, i64 0, .slice none 0 0, .slice none 0 0, .slice none 0 0] 29) = W := ⟨_, rfl⟩
  have BW := Lib.hid (show Below w.heap.size w W by rw [← hW]; exact below_size.alloc (Nat.le_refl _) _)
  have ZW := Lib.hid (show Blk W w.heap.size 29 #[i64 0, i64 0, i64 0, .slice none 0 0, .slice none 0 0, .slice none 0 0] by rw [← hW]; exact Blk.new w _ _)
  have HP := Lib.hid (h.below BW.out)
  have HM := Lib.hid (hM.below BW.out)
  have hwz : w.heap.size < W.heap.size := by rw [← hW]; simp
  have hI0 := Lib.hid hi0; have hI1 := Lib.hid hi1
  subst hn0; subst hn2
  clear h hM hi0 hi1 hT hq ok hS0
  simp only [i64] at hW
  go_enter Try.func72, Try.ntmps72
  go_wp2_with fail
  clear hW
  refine (l27Own_c gp s hd a A0 _ c0 its0 A1 _ c1 its1 A2 _ c2 os _ (by exact HP.out) (by omega) (by omega) (by omega) (fun t ht => Nat.le_trans (hI0.out t ht) (by omega)) (fun t ht => Nat.le_trans (hI1.out t ht) (by omega))).mono ?_
  rintro e w1 ⟨B0, d0, js0, B1, d1, js1, B2, d2, rfl, e0, e1, q0, q1, hw1, hb1⟩
  have F2 := Lib.hid (show FormW W W.heap.size (w1.alloc (.cells #[i64 s, i64 hd, i64 a, .slice B0 (n2 + 1) d0, .slice B1 n2 d1, .slice B2 n2 d2] 29)) w1.heap.size s hd a B0 (n2 + 1) d0 js0 B1 n2 d1 js1 B2 n2 d2 os from by
    have hz1 := hb1.size
    have hn := (Blk.new w1 29 #[i64 s, i64 hd, i64 a, .slice B0 (n2 + 1) d0, .slice B1 n2 d1, .slice B2 n2 d2]).wr (lo := w1.heap.size) (hi := w1.heap.size + 1) (n := 6) (vs := [i64 s, i64 hd, i64 a, .slice B0 (n2 + 1) d0, .slice B1 n2 d1, .slice B2 n2 d2]) (Nat.le_refl _) (Nat.lt_succ_self _) rfl (by simp)
    have HH := ((hw1.alloc (.cells #[i64 s, i64 hd, i64 a, .slice B0 (n2 + 1) d0, .slice B1 n2 d1, .slice B2 n2 d2] 29)).append (WrS.one hn) (by omega) (by omega)).permN (List.perm_append_singleton _ _)
    exact ⟨HH.wider (Nat.le_refl _) (by simp), hb1.alloc hz1 _, by simp; omega, q0, q1, fun b h1 _ _ _ _ => (hb1.alloc hz1 _).block b h1, (hb1.alloc hz1 _).size⟩)
  have N2 := Lib.hid (show NfAt W W.heap.size w1.heap.size s hd B0 (n2 + 1) d0 B1 n2 d1 B2 n2 d2 S0 (w1.alloc (.cells #[i64 s, i64 hd, i64 a, .slice B0 (n2 + 1) d0, .slice B1 n2 d1, .slice B2 n2 d2] 29)) from ⟨js0, js1, by rw [e0, HS0.out], by rw [e1, HS0.out], by rw [HS0.out]; exact F2.out⟩)
  clear hw1 hb1 e0 e1 q0 q1 F2
  go_wp2_with fail
  obtain ⟨w2, hw2⟩ : ∃ w2, w1.alloc (.cells #[i64 s, i64 hd, i64 a, .slice B0 (n2 + 1) d0, .slice B1 n2 d1, .slice B2 n2 d2] 29) = w2 := ⟨_, rfl⟩
  obtain ⟨g6, hg6⟩ : ∃ g6, w1.heap.size = g6 := ⟨_, rfl⟩
  rw [hw2, hg6] at N2
  simp only [i64] at hw2
  rw [hw2, hg6]
  clear hw2 hg6
  refine (specStrip_c W W.heap.size g6 s hd B0 (n2 + 1) d0 B1 n2 d1 B2 n2 d2 S0 _ 0 N2.out HOK.out (by omega) rfl hn1).mono ?_
  rintro e w3 ⟨⟨v, rfl⟩, hn3⟩
  have N3 := Lib.hid hn3
  have O3 := Lib.hid (show OkN n2 400 (stripN hd n2 S0) from (HOK.out.stripL (hd := hd)).stripR)
  clear hn3 N2
  go_wp2_with fail
  go_loopw [7] (fun iv wr => ∃ (k : Nat) (S : NF), k ≤ n2 ∧ iv = .int .i64 k ∧ Hid (LpAt (rotN hd) W W.heap.size g6 s hd B0 (n2 + 1) d0 B1 n2 d1 B2 n2 d2 400 (loopN hd (rotN hd) n2 0 (stripN hd n2 S0)) k S wr)) (fun iv _ => n2 - (intOf iv).toNat)
  case atStart => exact ⟨0, _, by omega, rfl, ⟨N3.out, by simpa using O3.out, rfl⟩⟩
  case round =>
    clear N3
    obtain ⟨k, S, hk, rfl, hL⟩ := hrel
    by_cases hlt : k < n2
    · obtain ⟨its0', its1', t, hf, ht, hq⟩ := hL.out.1.ask (i := k) (by omega)
      obtain ⟨b, hb⟩ : ∃ b, touchB hd k S = b := ⟨_, rfl⟩
      rw [hb] at hq
      have HF := Lib.hid hf; have HTT := Lib.hid ht; have HQQ := Lib.hid hq; have HB := Lib.hid hb
      have k4 := hf.d4
      clear hf ht hq hb
      go_wp2_with fail
      refine (l27Touched_c g6 s hd S.a B0 _ d0 its0' B1 _ d1 its1' B2 _ d2 _ k t b _ (by exact HF.out) (by omega) HTT.out HQQ.out).mono ?_
      rintro e w5 ⟨rfl, ⟨m, rfl⟩⟩
      clear k4
      cases b
      · have NX := Lib.hid (show roundN hd (rotN hd) k S = rotN hd k S by rw [roundN, HB.out]; rfl)
        go_wp2_with fail
        refine (l27Rotate_c W W.heap.size g6 s hd B0 (n2 + 1) d0 B1 n2 d1 B2 n2 d2 S k _ (400 + 400 * k) (hL.out.1.world (below_drewN below_size _)) hL.out.2.1 (by omega) rfl hn1 hlt).mono ?_
        rintro e w6 ⟨⟨v, rfl⟩, hn⟩
        have HN := Lib.hid hn
        clear hn
        go_wp2_with fail
        go_roundw
        case rel => exact ⟨k + 1, _, by omega, by go_num, hL.out.next hlt (by rw [NX.out]; exact HN.out) (OkN.round (OkN.rot hL.out.2.1 hlt) hL.out.2.1)⟩
        case measure => simp [intOf]; omega
      · have NX := Lib.hid (show roundN hd (rotN hd) k S = S by rw [roundN, HB.out]; rfl)
        go_wp2_with fail
        go_roundw
        case rel => exact ⟨k + 1, _, by omega, by go_num, hL.out.next hlt (by rw [NX.out]; exact hL.out.1.world (below_drewN below_size _)) (by rw [NX.out]; exact hL.out.2.1.more (by omega))⟩
        case measure => simp [intOf]; omega
    · have hkn : n2 = k := by omega
      subst hkn
      obtain ⟨hn, ho⟩ := hL.out.done
      obtain ⟨ja, jb, t, hf, _, _⟩ := hn.ask (i := 0) (by omega)
      have k4 := hf.d4
      have NN := Lib.hid hn; have OO := Lib.hid ho
      clear hf hn ho hL
      go_wp2_with fail
      obtain ⟨T1, hT1⟩ : ∃ T1, loopN hd (rotN hd) n2 0 (stripN hd n2 S0) = T1 := ⟨_, rfl⟩
      have HT1 := Lib.hid hT1
      have N6 := Lib.hid NN.out; have O6 := Lib.hid OO.out
      rw [hT1] at N6 O6
      clear hT1 NN OO k4
      go_loopw [8] (fun iv wr => ∃ (k : Nat) (S : NF), k ≤ n2 ∧ iv = .int .i64 k ∧ Hid (LpAt (absN hd) W W.heap.size g6 s hd B0 (n2 + 1) d0 B1 n2 d1 B2 n2 d2 (400 + 400 * n2) (loopN hd (absN hd) n2 0 T1) k S wr)) (fun iv _ => n2 - (intOf iv).toNat)
      case atStart => exact ⟨0, _, by omega, rfl, ⟨N6.out, by simpa using O6.out, rfl⟩⟩
      case round =>
        clear N6
        obtain ⟨k, S, hk, rfl, hL⟩ := hrel
        by_cases hlt : k < n2
        · obtain ⟨its0', its1', t, hf, ht, hq⟩ := hL.out.1.ask (i := k) (by omega)
          obtain ⟨b, hb⟩ : ∃ b, touchB hd k S = b := ⟨_, rfl⟩
          rw [hb] at hq
          have HF := Lib.hid hf; have HTT := Lib.hid ht; have HQQ := Lib.hid hq; have HB := Lib.hid hb
          have k4 := hf.d4
          clear hf ht hq hb
          go_wp2_with fail
          refine (l27Touched_c g6 s hd S.a B0 _ d0 its0' B1 _ d1 its1' B2 _ d2 _ k t b _ (by exact HF.out) (by omega) HTT.out HQQ.out).mono ?_
          rintro e w5 ⟨rfl, ⟨m, rfl⟩⟩
          clear k4
          cases b
          · have NX := Lib.hid (show roundN hd (absN hd) k S = absN hd k S by rw [roundN, HB.out]; rfl)
            go_wp2_with fail
            refine (l27Absorb_c W W.heap.size g6 s hd B0 (n2 + 1) d0 B1 n2 d1 B2 n2 d2 S k _ ((400 + 400 * n2) + 400 * k) (hL.out.1.world (below_drewN below_size _)) hL.out.2.1 (by omega) rfl hn1 rfl hlt).mono ?_
            rintro e w6 ⟨⟨v, rfl⟩, hn⟩
            have HN := Lib.hid hn
            clear hn
            go_wp2_with fail
            go_roundw
            case rel => exact ⟨k + 1, _, by omega, by go_num, hL.out.next hlt (by rw [NX.out]; exact HN.out) (OkN.round (OkN.abs hL.out.2.1 hlt) hL.out.2.1)⟩
            case measure => simp [intOf]; omega
          · have NX := Lib.hid (show roundN hd (absN hd) k S = S by rw [roundN, HB.out]; rfl)
            go_wp2_with fail
            go_roundw
            case rel => exact ⟨k + 1, _, by omega, by go_num, hL.out.next hlt (by rw [NX.out]; exact hL.out.1.world (below_drewN below_size _)) (by rw [NX.out]; exact hL.out.2.1.more (by omega))⟩
            case measure => simp [intOf]; omega
        · have hkn : n2 = k := by omega
          subst hkn
          obtain ⟨hn, ho⟩ := hL.out.done
          obtain ⟨ja, jb, t, hf, _, _⟩ := hn.ask (i := 0) (by omega)
          have k4 := hf.d4
          have NN := Lib.hid hn; have OO := Lib.hid ho
          clear hf hn ho hL
          clear k4
          obtain ⟨js0, js1, e0, e1, hF⟩ := NN.out
          have HF := Lib.hid hF
          have E01 := Lib.hid (And.intro e0 e1)
          have hTT : loopN hd (absN hd) n2 0 T1 = T := by rw [← HT1.out, ← HT.out]; rfl
          rw [hTT] at HF E01 OO
          have kk0 := HF.out.form.d0; have kk1 := HF.out.form.d1; have kk2 := HF.out.form.d2; have kk3 := HF.out.form.d3; have kk4 := HF.out.form.d4; have kk5 := HF.out.form.d5
          have BR := Lib.hid (show Below W.heap.size W wr from HF.out.below)
          have Z := Lib.hid (ZW.out.below BR.out hwz)
          have z0 := Z.out.cell 0; have z1 := Z.out.cell 1; have z2 := Z.out.cell 2; have z3 := Z.out.cell 3; have z4 := Z.out.cell 4; have z5 := Z.out.cell 5
          have f0 := Z.out.frozen 0; have f1 := Z.out.frozen 1; have f2 := Z.out.frozen 2; have f3 := Z.out.frozen 3; have f4 := Z.out.frozen 4; have f5 := Z.out.frozen 5
          simp at z0 z1 z2 z3 z4 z5
          have hj0 := hjs0 OO.out E01.out.1 HF.out; have hj1 := hjs1 OO.out E01.out.2 HF.out
          have x0 := Ext.cell kk0; have x1 := Ext.cell kk1; have x2 := Ext.cell kk2; have x3 := Ext.cell kk3; have x4 := Ext.cell kk4; have x5 := Ext.cell kk5
          go_wp2_with fail
          refine Mix.wp_region_mix [3, 0, 1, 2, 0] (fun w' => ∃ x : Ext wr, w' = x.w) (by kernel_rfl) (by kernel_rfl) (InExt.drew _) ?_
          repeat (first | (refine Mix.wpMix_read (by rfl) ?_; go_big_quiet_step (fail); refine wpQuiet_nil ?_) | (refine Mix.wpMix_pure (by rfl) ?_; go_big_quiet_step (fail); refine wpQuiet_nil ?_))
          refine Mix.wpMix_chg (by rfl) (fun K hK => ?_)
          go_wp2_with fail
          refine (l27Is_c gm sy st A n cp rs g6 s hd T.a B0 _ d0 js0 B1 _ d1 js1 B2 _ d2 T.os q _ (by exact HM.out.below (below_drew BR.out)) (by exact (HF.out.world (below_drew below_size)).form) hsy hst (by omega) (by omega) (by omega) hj0 hj1 (by rw [E01.out.1, E01.out.2]; exact HQ.out)).mono ?_
          rintro e w5 ⟨rfl, ⟨m5, rfl⟩⟩
          go_wp2_with fail
          refine hK _ _ ⟨⟨_, below_drewN below_size (1 + m5)⟩, rfl⟩ ?_
          clear hK K
          repeat (first | (refine Mix.wpMix_read (by rfl) ?_; go_big_quiet_step (fail); refine wpQuiet_nil ?_) | (refine Mix.wpMix_pure (by rfl) ?_; go_big_quiet_step (fail); refine wpQuiet_nil ?_))
          refine Mix.wpMix_tail (by rfl) (fun K hK => ?_)
          go_wp2_with fail
          refine hK _ _ ?_
          clear hK K
          repeat (first | (refine Mix.wpMix_read (by rfl) ?_; go_big_quiet_step (fail); refine wpQuiet_nil ?_) | (refine Mix.wpMix_pure (by rfl) ?_; go_big_quiet_step (fail); refine wpQuiet_nil ?_))
          (refine Mix.wpMix_nil ?_; try simp only [Exit.then])
          clear x0 x1 x2 x3 x4 x5
          go_wp2_with fail
          refine bodyPost_ret (v := .tuple #[.agg #[i64 s, i64 hd, i64 T.a, .slice B0 (n2 + 1) d0, .slice B1 n2 d1, .slice B2 n2 d2], .bool q]) (by simp [results, Try.results72, go_sem, z0, z1, z2, z3, z4, z5]) rfl ?_
          have hS := ((HF.out.world (below_drewN below_size (1 + m5))).wr.tail.set6 (u0 := .int .i64 s) (u1 := .int .i64 hd) (u2 := .int .i64 T.a) (u3 := .slice B0 (n2 + 1) d0) (u4 := .slice B1 n2 d1) (u5 := .slice B2 n2 d2) hwz)
          exact ⟨B0, d0, js0, B1, d1, js1, B2, d2, rfl, E01.out.1, E01.out.2, HF.out.k0, HF.out.k1, hS.wider (by omega) (by simp), below_set6 (below_drewN (BW.out.trans (BR.out.mono (by omega))) _) (Nat.le_refl _)⟩

/-- the normal form behind a pointer -/
def NpOut (s hd : Int) (n0 n1 n2 : Nat) (T : NF) (w : World) (e : Ending) (w' : World) : Prop :=
  ∃ g A0 c0 A1 c1 A2 c2, e = .returned (.pointer (some ⟨g, 0, none⟩)) ∧ NfAt w w.heap.size g s hd A0 n0 c0 A1 n1 c1 A2 n2 c2 T w' ∧ OkN n1 4000 T
theorem NfAt.ask2 {w0 w : World} {lo g : Nat} {s hd : Int} {A0 : Option Addr} {n0 c0 : Nat} {A1 : Option Addr} {n1 c1 : Nat} {A2 : Option Addr} {n2 c2 : Nat} {S : NF} {k i h : Nat} (hN : NfAt w0 lo g s hd A0 n0 c0 A1 n1 c1 A2 n2 c2 S w) (ok : OkN n1 k S) (hi : i < n0) (hh : h < n0) :
    ∃ its0 its1 t u, FormP w g s hd S.a A0 n0 c0 its0 A1 n1 c1 its1 A2 n2 c2 S.os ∧ its0[i]? = some t ∧ touchQ hd S.a i t.n = touchB hd i S ∧ its0[h]? = some u ∧ u.n ≤ 1000000 := by
  obtain ⟨its0, its1, e0, e1, hF⟩ := hN
  have hl := RdII.len hF.form.r0
  obtain ⟨t, ht⟩ : ∃ t, its0[i]? = some t := ⟨_, List.getElem?_eq_getElem (by omega)⟩
  obtain ⟨u, hu⟩ : ∃ u, its0[h]? = some u := ⟨_, List.getElem?_eq_getElem (by omega)⟩
  have hx : S.ws[i]? = some t.xs := by rw [← e0, List.getElem?_map, ht]; rfl
  have hz := RdII.size hF.form.r0 (List.mem_of_getElem? ht)
  refine ⟨its0, its1, t, u, hF.form, ht, by rw [touchB_eq hx, hz], hu, ?_⟩
  have hz2 := RdII.size hF.form.r0 (List.mem_of_getElem? hu)
  have h2 := sumW_at S.ws h
  rw [← e0, List.getD_eq_getElem?_getD, List.getElem?_map, hu, e0] at h2
  have h3 := ok.sum
  simp only [Option.map_some, Option.getD_some] at h2
  omega
theorem NfAt.lt {w0 w : World} {lo g : Nat} {s hd : Int} {A0 : Option Addr} {n0 c0 : Nat} {A1 : Option Addr} {n1 c1 : Nat} {A2 : Option Addr} {n2 c2 : Nat} {S : NF} (h : NfAt w0 lo g s hd A0 n0 c0 A1 n1 c1 A2 n2 c2 S w) (hn0 : 0 < n0) (hn1 : 0 < n1) (hn2 : 0 < n2) :
    g < w.heap.size ∧ (∀ ad, A0 = some ad → ad.block < w.heap.size) ∧ (∀ ad, A1 = some ad → ad.block < w.heap.size) ∧ (∀ ad, A2 = some ad → ad.block < w.heap.size) := by
  obtain ⟨its0, its1, _, _, hF⟩ := h
  exact ⟨hF.gblock.2, fun ad e => hF.form.r0.head.blocks ad hn0 e, fun ad e => hF.form.r1.head.blocks ad hn1 e, fun ad e => Rd.blocks hF.form.r2 ad hn2 e⟩
theorem NfAt.other {w0 w : World} {lo g c : Nat} {s hd : Int} {A0 : Option Addr} {n0 c0 : Nat} {A1 : Option Addr} {n1 c1 : Nat} {A2 : Option Addr} {n2 c2 : Nat} {S : NF} (h : NfAt w0 lo g s hd A0 n0 c0 A1 n1 c1 A2 n2 c2 S w) (hc : c < w0.heap.size) (hg : c ≠ g) (h0 : ∀ ad, A0 = some ad → c ≠ ad.block) (h1 : ∀ ad, A1 = some ad → c ≠ ad.block) (h2 : ∀ ad, A2 = some ad → c ≠ ad.block) : w.heap[c]? = w0.heap[c]? := by
  obtain ⟨its0, its1, _, _, hF⟩ := h
  exact hF.frame c hc hg h0 h1 h2
/-- what is still to be done ahead of the closure j -/
def restN (hd : Int) (r : Nat) : Nat → NF → NF
  | 0, S => loopN hd (absN hd) r 0 (loopN hd (rotN hd) r 0 S)
  | 1, S => loopN hd (absN hd) r 0 S
  | _, S => S
set_option maxHeartbeats 8000000 in
set_option maxRecDepth 100000 in
theorem normalized_c (s : Int) (h : Nat) (a : Int) (A0 : Option Addr) (n0 c0 : Nat) (its0 : List It) (A1 : Option Addr) (n1 c1 : Nat) (its1 : List It) (A2 : Option Addr) (n2 c2 : Nat) (os : List Int) (w : World) (hR : RdS w (sgForm A0 n0 its0 A1 n1 its1 A2 n2 os)) (ok : OkN n1 0 ⟨a, its0.map It.xs, its1.map It.xs, os⟩) (hn1 : 1 ≤ n1 ∧ n1 ≤ 3) (hn0 : n0 = n1 + 1) (hn2 : n2 = n1) (hh : h ≤ n1) :
    Calls Try.prog 73 #[.agg #[.int .i64 s, .int .i64 h, .int .i64 a, .slice A0 n0 c0, .slice A1 n1 c1, .slice A2 n2 c2]] w (NpOut s h n0 n1 n2 (normN h n1 ⟨a, its0.map It.xs, its1.map It.xs, os⟩) w) := by
  have hi0 : ∀ t ∈ its0, t.n ≤ 400 := fun t ht => by
    have h1 := RdII.size hR.left.left ht
    obtain ⟨i, hi⟩ := List.mem_iff_getElem?.1 ht
    have h2 := sumW_at (its0.map It.xs) i
    rw [List.getD_eq_getElem?_getD, List.getElem?_map, hi] at h2
    have h3 := ok.sum
    simp only [Option.map_some, Option.getD_some] at h2
    simp only at h3
    omega
  have hi1 : ∀ t ∈ its1, t.n ≤ 20 := fun t ht => by
    have h1 := RdII.size hR.left.right ht
    have h2 := ok.rep t.xs (List.mem_map_of_mem ht)
    omega
  obtain ⟨S0, hS0⟩ : ∃ S0 : NF, S0 = ⟨a, its0.map It.xs, its1.map It.xs, os⟩ := ⟨_, rfl⟩
  rw [← hS0] at ok ⊢
  obtain ⟨T, hT⟩ : ∃ T, normN h n1 S0 = T := ⟨_, rfl⟩
  rw [hT]
  have HT := Lib.hid hT; have HOK := Lib.hid ok; have HS0 := Lib.hid hS0
  obtain ⟨W, hW⟩ : ∃ W, w.alloc (.cells #[i64 s, i64 h, i64 a, .slice A0 n0 c0, .slice A1 n1 c1, .slice A2 n2 c2] 29) = W := ⟨_, rfl⟩
  have BW := Lib.hid (show Below w.heap.size w W by rw [← hW]; exact below_size.alloc (Nat.le_refl _) _)
  have ZW := Lib.hid (show Blk W w.heap.size 29 #[i64 s, i64 h, i64 a, .slice A0 n0 c0, .slice A1 n1 c1, .slice A2 n2 c2] by rw [← hW]; exact Blk.new w _ _)
  have HR := Lib.hid (hR.below BW.out)
  have hwz : w.heap.size < W.heap.size := by rw [← hW]; simp
  have hI0 := Lib.hid hi0; have hI1 := Lib.hid hi1
  have kk0 := ZW.out.cell 0; have kk1 := ZW.out.cell 1; have kk2 := ZW.out.cell 2; have kk3 := ZW.out.cell 3; have kk4 := ZW.out.cell 4; have kk5 := ZW.out.cell 5
  simp at kk0 kk1 kk2 kk3 kk4 kk5
  subst hn0; subst hn2
  clear hR hi0 hi1 hT ok hS0
  simp only [i64] at hW
  go_enter Try.func73, Try.ntmps73
  go_wp2_with fail
  clear hW
  refine (copyFormula_c s h a A0 _ c0 its0 A1 _ c1 its1 A2 _ c2 os _ (by exact HR.out) (by omega) (by omega) (by omega) (fun t ht => Nat.le_trans (hI0.out t ht) (by omega)) (fun t ht => Nat.le_trans (hI1.out t ht) (by omega))).mono ?_
  rintro e w1 ⟨g6, B0, d0, js0, B1, d1, js1, B2, d2, rfl, e0, e1, hF⟩
  have N2 := Lib.hid (show NfAt W W.heap.size g6 s h B0 (n2 + 1) d0 B1 n2 d1 B2 n2 d2 S0 w1 from ⟨js0, js1, by rw [e0, HS0.out], by rw [e1, HS0.out], by rw [HS0.out]; exact hF⟩)
  clear hF e0 e1 kk0 kk1 kk2 kk3 kk4 kk5
  go_wp2_with fail
  refine (implStrip_c W W.heap.size g6 s h B0 (n2 + 1) d0 B1 n2 d1 B2 n2 d2 S0 _ 0 N2.out HOK.out (by omega) rfl hn1).mono ?_
  rintro e w3 ⟨⟨v, rfl⟩, hn3⟩
  have N3 := Lib.hid hn3
  have O3 := Lib.hid (show OkN n2 400 (stripN h n2 S0) from (HOK.out.stripL (hd := h)).stripR)
  clear hn3 N2
  go_wp2_with fail
  obtain ⟨w4, hw4⟩ : ∃ w4, w3.alloc (.cells #[.func (.func 120) #[.pointer (some ⟨g6, 0, none⟩)] #[], .func (.func 121) #[.pointer (some ⟨g6, 0, none⟩)] #[]] 150) = w4 := ⟨_, rfl⟩
  have C4 := Lib.hid (show Blk w4 w3.heap.size 150 #[.func (.func 120) #[.pointer (some ⟨g6, 0, none⟩)] #[], .func (.func 121) #[.pointer (some ⟨g6, 0, none⟩)] #[]] by rw [← hw4]; exact Blk.new w3 _ _)
  have L4 := Lib.hid (N3.out.lt (by omega) (by omega) (by omega))
  have N4 := Lib.hid (show NfAt w4 W.heap.size g6 s h B0 (n2 + 1) d0 B1 n2 d1 B2 n2 d2 (stripN h n2 S0) w4 from by
    obtain ⟨ja, jb, e0, e1, hF⟩ := N3.out
    exact ⟨ja, jb, e0, e1, (hF.world (by rw [← hw4]; exact below_size.alloc (Nat.le_refl _) _)).rebase⟩)
  have B4 := Lib.hid (show Below W.heap.size W w4 from by
    obtain ⟨ja, jb, e0, e1, hF⟩ := N3.out
    exact (hF.world (w' := w4) (by rw [← hw4]; exact below_size.alloc (Nat.le_refl _) _)).below)
  have hz4 : w3.heap.size < w4.heap.size := by rw [← hw4]; simp
  rw [hw4]
  clear hw4 N3
  have HR0 := Lib.hid (show restN h n2 0 (stripN h n2 S0) = T from HT.out)
  go_loopw [17] (fun jv wr => ∃ (j : Nat) (S : NF), j ≤ 2 ∧ jv = .int .i64 j ∧ Hid (NfAt w4 W.heap.size g6 s h B0 (n2 + 1) d0 B1 n2 d1 B2 n2 d2 S wr) ∧ Hid (OkN n2 (400 + 1200 * j) S) ∧ Hid (restN h n2 j S = T)) (fun jv _ => 2 - (intOf jv).toNat)
  case atStart => exact ⟨0, _, by omega, rfl, N4.out, O3.out, HR0.out⟩
  case round =>
    clear N4 O3 HR0
    obtain ⟨j, S, hj, rfl, HN, HO, HRT⟩ := hrel
    have CB := Lib.hid (C4.out.of_block (HN.out.other hz4 (by have := L4.out.1; omega) (fun ad e => by have := L4.out.2.1 ad e; omega) (fun ad e => by have := L4.out.2.2.1 ad e; omega) (fun ad e => by have := L4.out.2.2.2 ad e; omega)))
    rcases (show j = 0 ∨ j = 1 ∨ j = 2 by omega) with rfl | rfl | rfl
    · skip
      have c5 := CB.out.cell 0
      simp at c5
      obtain ⟨ja, jb, t0, hf0, _, _⟩ := HN.out.ask (i := 0) (by omega)
      have k4 := hf0.d4
      clear hf0
      go_wp2_with fail
      refine (sizeII_c _ _ _ _ (by omega)).mono ?_
      rintro e w5 ⟨rfl, rfl⟩
      clear k4 c5
      go_wp2_with fail
      obtain ⟨wo, hwo⟩ : ∃ wo : World, wo = wr := ⟨_, rfl⟩
      go_loopw [26] (fun iv wr => ∃ (k : Nat) (S' : NF), k ≤ n2 ∧ iv = .int .i64 k ∧ Hid (LpAt (rotN h) w4 W.heap.size g6 s h B0 (n2 + 1) d0 B1 n2 d1 B2 n2 d2 400 (loopN h (rotN h) n2 0 S) k S' wr)) (fun iv _ => n2 - (intOf iv).toNat)
      case atStart => exact ⟨0, S, by omega, rfl, ⟨HN.out, HO.out, rfl⟩⟩
      case round =>
        clear HN CB hwo
        obtain ⟨k, S', hk, rfl, hL⟩ := hrel
        by_cases hlt : k < n2
        · obtain ⟨its0', its1', t, u, hf, ht, hq, hu, hun⟩ := hL.out.1.ask2 hL.out.2.1 (i := k) (h := h) (by omega) (by omega)
          obtain ⟨b, hb⟩ : ∃ b, touchB h k S' = b := ⟨_, rfl⟩
          rw [hb] at hq
          have HF := Lib.hid hf; have HTT := Lib.hid ht; have HQQ := Lib.hid hq; have HB := Lib.hid hb; have HU := Lib.hid hu
          clear hf ht hq hb hu
          go_wp2_with fail
          refine (touched_c g6 s h S'.a B0 _ d0 its0' B1 _ d1 its1' B2 _ d2 _ k t u b _ (by exact HF.out) (by omega) HU.out hun HTT.out HQQ.out).mono ?_
          rintro e w5 ⟨rfl, ⟨m, rfl⟩⟩
          cases b
          · have NX := Lib.hid (show roundN h (rotN h) k S' = rotN h k S' by rw [roundN, HB.out]; rfl)
            go_wp2_with fail
            refine (rotate_c w4 W.heap.size g6 s h B0 (n2 + 1) d0 B1 n2 d1 B2 n2 d2 S' k _ (400 + 400 * k) (hL.out.1.world (below_drewN below_size _)) hL.out.2.1 (by omega) rfl hn1 hlt).mono ?_
            rintro e w6 ⟨⟨v, rfl⟩, hn⟩
            have HN6 := Lib.hid hn
            clear hn
            go_wp2_with fail
            go_roundw
            case rel => exact ⟨k + 1, _, by omega, by go_num, hL.out.next hlt (by rw [NX.out]; exact HN6.out) (OkN.round (OkN.rot hL.out.2.1 hlt) hL.out.2.1)⟩
            case measure => simp [intOf]; omega
          · have NX := Lib.hid (show roundN h (rotN h) k S' = S' by rw [roundN, HB.out]; rfl)
            go_wp2_with fail
            go_roundw
            case rel => exact ⟨k + 1, _, by omega, by go_num, hL.out.next hlt (by rw [NX.out]; exact hL.out.1.world (below_drewN below_size _)) (by rw [NX.out]; exact hL.out.2.1.more (by omega))⟩
            case measure => simp [intOf]; omega
        · have hkn : n2 = k := by omega
          subst hkn
          obtain ⟨hn, ho⟩ := hL.out.done
          have NN := Lib.hid hn; have OO := Lib.hid ho
          clear hn ho hL
          go_wp2_with fail
          go_roundw
          case rel => exact ⟨1, _, by omega, by go_num, NN.out, OO.out.more (by omega), HRT.out⟩
          case measure => simp [intOf]
    · skip
      have c5 := CB.out.cell 1
      simp at c5
      obtain ⟨ja, jb, t0, hf0, _, _⟩ := HN.out.ask (i := 0) (by omega)
      have k4 := hf0.d4
      clear hf0
      go_wp2_with fail
      refine (sizeII_c _ _ _ _ (by omega)).mono ?_
      rintro e w5 ⟨rfl, rfl⟩
      clear k4 c5
      go_wp2_with fail
      obtain ⟨wo, hwo⟩ : ∃ wo : World, wo = wr := ⟨_, rfl⟩
      go_loopw [26] (fun iv wr => ∃ (k : Nat) (S' : NF), k ≤ n2 ∧ iv = .int .i64 k ∧ Hid (LpAt (absN h) w4 W.heap.size g6 s h B0 (n2 + 1) d0 B1 n2 d1 B2 n2 d2 1600 (loopN h (absN h) n2 0 S) k S' wr)) (fun iv _ => n2 - (intOf iv).toNat)
      case atStart => exact ⟨0, S, by omega, rfl, ⟨HN.out, HO.out, rfl⟩⟩
      case round =>
        clear HN CB hwo
        obtain ⟨k, S', hk, rfl, hL⟩ := hrel
        by_cases hlt : k < n2
        · obtain ⟨its0', its1', t, u, hf, ht, hq, hu, hun⟩ := hL.out.1.ask2 hL.out.2.1 (i := k) (h := h) (by omega) (by omega)
          obtain ⟨b, hb⟩ : ∃ b, touchB h k S' = b := ⟨_, rfl⟩
          rw [hb] at hq
          have HF := Lib.hid hf; have HTT := Lib.hid ht; have HQQ := Lib.hid hq; have HB := Lib.hid hb; have HU := Lib.hid hu
          clear hf ht hq hb hu
          go_wp2_with fail
          refine (touched_c g6 s h S'.a B0 _ d0 its0' B1 _ d1 its1' B2 _ d2 _ k t u b _ (by exact HF.out) (by omega) HU.out hun HTT.out HQQ.out).mono ?_
          rintro e w5 ⟨rfl, ⟨m, rfl⟩⟩
          cases b
          · have NX := Lib.hid (show roundN h (absN h) k S' = absN h k S' by rw [roundN, HB.out]; rfl)
            go_wp2_with fail
            refine (absorb_c w4 W.heap.size g6 s h B0 (n2 + 1) d0 B1 n2 d1 B2 n2 d2 S' k _ (1600 + 400 * k) (hL.out.1.world (below_drewN below_size _)) hL.out.2.1 (by omega) rfl hn1 rfl hlt).mono ?_
            rintro e w6 ⟨⟨v, rfl⟩, hn⟩
            have HN6 := Lib.hid hn
            clear hn
            go_wp2_with fail
            go_roundw
            case rel => exact ⟨k + 1, _, by omega, by go_num, hL.out.next hlt (by rw [NX.out]; exact HN6.out) (OkN.round (OkN.abs hL.out.2.1 hlt) hL.out.2.1)⟩
            case measure => simp [intOf]; omega
          · have NX := Lib.hid (show roundN h (absN h) k S' = S' by rw [roundN, HB.out]; rfl)
            go_wp2_with fail
            go_roundw
            case rel => exact ⟨k + 1, _, by omega, by go_num, hL.out.next hlt (by rw [NX.out]; exact hL.out.1.world (below_drewN below_size _)) (by rw [NX.out]; exact hL.out.2.1.more (by omega))⟩
            case measure => simp [intOf]; omega
        · have hkn : n2 = k := by omega
          subst hkn
          obtain ⟨hn, ho⟩ := hL.out.done
          have NN := Lib.hid hn; have OO := Lib.hid ho
          clear hn ho hL
          go_wp2_with fail
          go_roundw
          case rel => exact ⟨2, _, by omega, by go_num, NN.out, OO.out.more (by omega), HRT.out⟩
          case measure => simp [intOf]
    · have hTT : S = T := HRT.out
      subst hTT
      clear HRT CB
      go_wp2_with fail
      go_ret
      refine ⟨g6, B0, d0, B1, d1, B2, d2, rfl, ?_, HO.out.more (by omega)⟩
      obtain ⟨ja, jb, e0, e1, hF⟩ := HN.out
      have hb : Below w.heap.size w wr := (BW.out.trans (B4.out.mono (by omega))).trans (hF.below.mono (by omega))
      exact ⟨ja, jb, e0, e1, ⟨hF.wr.wider (by omega) (Nat.le_refl _), hb, hb.size, hF.k0, hF.k1, fun b h1 _ _ _ _ => hb.block b h1, hb.size⟩⟩

def nfT (hd a : Int) (ws rps : List (List Int)) (os : List Int) : NF := normN hd rps.length ⟨a, ws, rps, os⟩
/-- what NormalFormula answers -/
def nfR (sy st : Int) (rs : List Rule3) (s hd a : Int) (ws rps : List (List Int)) (os : List Int) : FR × Int :=
  if vformB sy st rs s hd a ws rps os then
    (if formB sy st s hd (nfT hd a ws rps os).a (nfT hd a ws rps os).ws (nfT hd a ws rps os).rs (nfT hd a ws rps os).os then ((s, hd, (nfT hd a ws rps os).a, (nfT hd a ws rps os).ws, (nfT hd a ws rps os).rs, (nfT hd a ws rps os).os), 0) else (zeroF, 5))
  else (zeroF, 1)
theorem sumW_le : ∀ l : List (List Int), (∀ x ∈ l, x.length ≤ 100) → sumW l ≤ l.length * 100
  | [], _ => by simp [sumW]
  | x :: l, h => by
    have h1 := h x (by simp)
    have h2 := sumW_le l fun y hy => h y (by simp [hy])
    simp only [sumW, List.length_cons]; omega
theorem FormOk.okN {sy st s hd a : Int} {ws rps : List (List Int)} {os : List Int} {r : Nat} (h : FormOk sy st s hd a ws rps os) (hr : rps.length = r) : OkN r 0 ⟨a, ws, rps, os⟩ := by
  have h1 := sumW_le ws fun x hx => (h.w x hx).1
  have h2 := h.nw; have h3 := h.r; have h4 := h.no; have h5 := h.lo; have h6 := h.hi
  have h7 : (ws.getD hd.toNat []).length ≤ 100 := by
    have hh := h.hhd
    exact (h.w _ (getD_mem (by omega))).1
  exact ⟨by show ws.length = r + 1; omega, hr, by show os.length = r; omega, by show sumW ws ≤ 400; omega, fun p hp => ⟨(h.p p hp).1, (h.p p hp).2.1⟩, ⟨by show _ ≤ a; omega, by show a ≤ _; omega⟩, fun x hx => by have := h.o x hx; omega⟩
theorem jsB0 {T : NF} {n1 k n0 : Nat} {js0 : List It} {w : World} {A0 : Option Addr} (ok : OkN n1 k T) (e : js0.map It.xs = T.ws) (h : RdS w (sgII A0 n0 js0)) : ∀ t ∈ js0, t.n ≤ 100000 := by
  intro t ht
  have h1 := RdII.size h ht
  obtain ⟨i, hi⟩ := List.mem_iff_getElem?.1 ht
  have h2 := sumW_at (js0.map It.xs) i
  rw [List.getD_eq_getElem?_getD, List.getElem?_map, hi, e] at h2
  have h3 := ok.sum
  simp only [Option.map_some, Option.getD_some] at h2
  omega
theorem jsB1 {T : NF} {n1 k n0 : Nat} {js1 : List It} {w : World} {A0 : Option Addr} (ok : OkN n1 k T) (e : js1.map It.xs = T.rs) (h : RdS w (sgII A0 n0 js1)) : ∀ t ∈ js1, t.n ≤ 100000 := by
  intro t ht
  have h1 := RdII.size h ht
  have h2 := ok.rep t.xs (by rw [← e]; exact List.mem_map_of_mem ht)
  omega
theorem OkN.norm {hd : Int} {r : Nat} {S : NF} (h : OkN r 0 S) (hr : r ≤ 3) : OkN r 4000 (normN hd r S) := by
  have key : ∀ (f : Nat → NF → NF), (∀ i k S, i < r → OkN r k S → OkN r (k + 400) (f i S)) → ∀ (m i k : Nat) (S : NF), i + m ≤ r → OkN r k S → OkN r (k + 400 * m) (loopN hd f m i S) := by
    intro f hf m
    induction m with
    | zero => intro i k S _ h; exact h.more (by omega)
    | succ m ih =>
      intro i k S hi h
      have := ih (i + 1) (k + 400) (roundN hd f i S) (by omega) (OkN.round (hf i k S (by omega) h) h)
      exact this.more (by omega)
  have h1 : OkN r 400 (stripN hd r S) := (h.stripL (hd := hd)).stripR
  have h2 := key (rotN hd) (fun i k S hi h => h.rot hi) r 0 400 _ (by omega) h1
  have h3 := key (absN hd) (fun i k S hi h => h.abs hi) r 0 _ _ (by omega) h2
  exact h3.more (by omega)
set_option maxHeartbeats 8000000 in
set_option maxRecDepth 100000 in
theorem sNormalFormula0_c (sy st : Int) (A : Option Addr) (n cp : Nat) (rs : List Rule3) (s hd a : Int) (A0 : Option Addr) (n0 c0 : Nat) (its0 : List It) (A1 : Option Addr) (n1 c1 : Nat) (its1 : List It) (A2 : Option Addr) (n2 c2 : Nat) (os : List Int) (w : World)
    (h : RdS w [sgX enc3 3 A n rs]) (h' : RdS w (sgForm A0 n0 its0 A1 n1 its1 A2 n2 os)) (hn : n ≤ 1000000000) (hn' : n0 ≤ 1000000000) (hna : n1 ≤ 1000000000) (hnb : n2 ≤ 1000000000) (hi0 : ∀ t ∈ its0, t.n ≤ 1000000000) (hi1 : ∀ t ∈ its1, t.n ≤ 1000000000) :
    Calls Try.prog 36 #[.agg #[.int .i64 sy, .int .i64 st, .slice A n cp], .agg #[.int .i64 s, .int .i64 hd, .int .i64 a, .slice A0 n0 c0, .slice A1 n1 c1, .slice A2 n2 c2]] w (FoOut2 (nfR sy st rs s hd a (its0.map It.xs) (its1.map It.xs) os) w) := by
  have H := Lib.hid (show Rd3 w A n rs from h.head); have H' := Lib.hid h'
  have HL0 := Lib.hid (RdII.len h'.left.left); have HL1 := Lib.hid (RdII.len h'.left.right); have HL2 := Lib.hid (show os.length = n2 from RdI.len (show RdI w A2 n2 os from h'.right.head))
  clear h h'
  obtain ⟨w0, hw0⟩ : ∃ w0, ((w.alloc (.cells #[i64 sy, i64 st, .slice A n cp] 34)).alloc (.cells #[i64 s, i64 hd, i64 a, .slice A0 n0 c0, .slice A1 n1 c1, .slice A2 n2 c2] 29)).alloc (.cells #[i64 0, i64 0, i64 0, .slice none 0 0, .slice none 0 0, .slice none 0 0] 29) = w0 := ⟨_, rfl⟩
  obtain ⟨b0, b1, b2⟩ := boxes3 w #[i64 sy, i64 st, .slice A n cp] #[i64 s, i64 hd, i64 a, .slice A0 n0 c0, .slice A1 n1 c1, .slice A2 n2 c2] #[i64 0, i64 0, i64 0, .slice none 0 0, .slice none 0 0, .slice none 0 0] 34 29 29
  rw [hw0] at b0 b1 b2
  have B0 := Lib.hid (show Below w.heap.size w w0 by rw [← hw0]; exact ((below_size.alloc (Nat.le_refl _) _).alloc (by simp) _).alloc (by simp; omega) _)
  have F0 := Lib.hid (show FormP w0 (w.heap.size + 1) s hd a A0 n0 c0 its0 A1 n1 c1 its1 A2 n2 c2 os by
    have hh := H'.out.below B0.out
    exact ⟨b1.cell 0, b1.cell 1, b1.cell 2, b1.cell 3, b1.cell 4, b1.cell 5, hh.left.left, hh.left.right, hh.right.head⟩)
  have M0 := Lib.hid (show MachP w0 w.heap.size sy st A n cp rs from ⟨b0.cell 0, b0.cell 1, b0.cell 2, Rd.below H.out B0.out⟩)
  have Z0 := Lib.hid (show Blk w0 (w.heap.size + 2) 29 #[i64 0, i64 0, i64 0, .slice none 0 0, .slice none 0 0, .slice none 0 0] from b2)
  have hz0 : w.heap.size + 3 ≤ w0.heap.size := by rw [← hw0]; simp
  obtain ⟨q, hq⟩ : ∃ q, machB sy st rs = q := ⟨_, rfl⟩
  obtain ⟨r, hr⟩ : ∃ r, formB sy st s hd a (its0.map It.xs) (its1.map It.xs) os = r := ⟨_, rfl⟩
  obtain ⟨R, hR⟩ : ∃ R, nfR sy st rs s hd a (its0.map It.xs) (its1.map It.xs) os = R := ⟨_, rfl⟩
  rw [hR]
  have HR := Lib.hid hR
  have HF := Lib.hid (show vformB sy st rs s hd a (its0.map It.xs) (its1.map It.xs) os = (q && r) by rw [vformB, hq, hr])
  have HQ := Lib.hid hq; have HI0 := Lib.hid hi0; have HI1 := Lib.hid hi1; have HRr := Lib.hid hr
  clear hr hi0 hi1 hR b0 b1 b2
  have m0 := M0.out.c0; have m1 := M0.out.c1; have m2 := M0.out.c2
  go_enter Try.func36, Try.ntmps36
  go_wp2_with fail
  refine (l05Is_c w.heap.size sy st A n cp rs q _ (by exact M0.out) hn hq).mono ?_
  rintro e w1 ⟨rfl, hb⟩
  have T := Lib.hid (below_chain B0.out B0.out.size hb)
  have M1 := Lib.hid (M0.out.below hb); have F1 := Lib.hid (F0.out.below hb); have Z1 := Lib.hid (Z0.out.keep hb)
  have hz1 : w.heap.size + 3 ≤ w1.heap.size := Nat.le_trans hz0 hb.size
  clear hb hq m0 m1 m2 hw0
  have z0 := Z1.out.cell 0; have z1 := Z1.out.cell 1; have z2 := Z1.out.cell 2; have z3 := Z1.out.cell 3; have z4 := Z1.out.cell 4; have z5 := Z1.out.cell 5; have y0 := Z1.out.frozen 0; have y1 := Z1.out.frozen 1; have y2 := Z1.out.frozen 2; have y3 := Z1.out.frozen 3; have y4 := Z1.out.frozen 4; have y5 := Z1.out.frozen 5
  simp at z0 z1 z2 z3 z4 z5
  cases q
  · go_wp2_with fail
    refine bodyPost_ret (v := .tuple #[.agg #[i64 0, i64 0, i64 0, .slice none 0 0, .slice none 0 0, .slice none 0 0], i64 1]) (by simp [results, Try.results36, go_sem, z0, z1, z2, z3, z4, z5]) rfl ?_
    rw [show R = (zeroF, 1) by rw [← HR.out, nfR, HF.out]; rfl]
    exact (FoOut.bad 1 (below_set6 T.out (by omega))).two
  have hbd := machB_bd HQ.out
  go_wp2_with fail
  refine (l27Is_c _ sy st A n cp rs _ s hd a A0 n0 c0 its0 A1 n1 c1 its1 A2 n2 c2 os r _ (by exact M1.out) (by exact F1.out) hbd.1 hbd.2.1 hn' hna hnb HI0.out HI1.out HRr.out).mono ?_
  rintro e w2 ⟨rfl, hq⟩
  have hb := hq.below w1.heap.size
  have T2 := Lib.hid (below_chain T.out T.out.size hb)
  have M2 := Lib.hid (M1.out.below hb); have F2 := Lib.hid (F1.out.below hb); have Z2 := Lib.hid (Z1.out.keep hb)
  have hz2 : w.heap.size + 3 ≤ w2.heap.size := Nat.le_trans hz1 hb.size
  clear hq hb z0 z1 z2 z3 z4 z5 y0 y1 y2 y3 y4 y5
  have z0 := Z2.out.cell 0; have z1 := Z2.out.cell 1; have z2 := Z2.out.cell 2; have z3 := Z2.out.cell 3; have z4 := Z2.out.cell 4; have z5 := Z2.out.cell 5; have y0 := Z2.out.frozen 0; have y1 := Z2.out.frozen 1; have y2 := Z2.out.frozen 2; have y3 := Z2.out.frozen 3; have y4 := Z2.out.frozen 4; have y5 := Z2.out.frozen 5
  simp at z0 z1 z2 z3 z4 z5
  cases r
  · go_wp2_with fail
    refine bodyPost_ret (v := .tuple #[.agg #[i64 0, i64 0, i64 0, .slice none 0 0, .slice none 0 0, .slice none 0 0], i64 1]) (by simp [results, Try.results36, go_sem, z0, z1, z2, z3, z4, z5]) rfl ?_
    rw [show R = (zeroF, 1) by rw [← HR.out, nfR, HF.out]; rfl]
    exact (FoOut.bad 1 (below_set6 T2.out (by omega))).two
  have HV := Lib.hid (show vformB sy st rs s hd a (its0.map It.xs) (its1.map It.xs) os = true by rw [HF.out]; rfl)
  have FO := formB_ok HRr.out
  have hrl : (its1.map It.xs).length = n1 := by rw [List.length_map]; exact HL1.out
  have hr3 : 1 ≤ n1 ∧ n1 ≤ 3 := by have := FO.r; omega
  have hn0 : n0 = n1 + 1 := by have := FO.nw; rw [List.length_map, HL0.out, hrl] at this; exact this
  have hn2 : n2 = n1 := by have := FO.no; rw [HL2.out, hrl] at this; exact this
  have OK := Lib.hid (FO.okN hrl)
  have ON := Lib.hid ((FO.okN hrl).norm (hd := hd) hr3.2)
  obtain ⟨T9, hT9⟩ : ∃ T9, normN hd n1 ⟨a, its0.map It.xs, its1.map It.xs, os⟩ = T9 := ⟨_, rfl⟩
  obtain ⟨p, hp⟩ : ∃ p, formB sy st s hd T9.a T9.ws T9.rs T9.os = p := ⟨_, rfl⟩
  have HRR := Lib.hid (show R = if p then ((s, hd, T9.a, T9.ws, T9.rs, T9.os), 0) else (zeroF, 5) by
    rw [← HR.out, nfR, HV.out, if_pos rfl, nfT, hrl, hT9, hp])
  rw [hT9] at ON
  have HP := Lib.hid hp; have HT9 := Lib.hid hT9; have HN0 := Lib.hid hn0; have HN2 := Lib.hid hn2
  clear FO hrl hp hT9 hn0 hn2
  go_wp2_with fail
  refine (l27Normal_c _ sy st A n cp rs _ s hd a A0 n0 c0 its0 A1 n1 c1 its1 A2 n2 c2 os p _ (by exact M2.out) (by exact F2.out) hbd.1 hbd.2.1 OK.out hr3 HN0.out HN2.out (by rw [HT9.out]; exact HP.out)).mono ?_
  rw [HT9.out]
  rintro e w3 ⟨B0', d0, js0, B1, d1, js1, B2, d2, rfl, e0, e1, q0, q1, hS, hb3⟩
  have E01 := Lib.hid (And.intro e0 e1); have S3 := Lib.hid hS
  have T3 := Lib.hid (below_chain T2.out T2.out.size hb3)
  have Z3 := Lib.hid (Z2.out.keep hb3)
  have hz3 := hb3.size
  have b0 := jsB0 ON.out e0 hS.rd.left.left; have b1 := jsB1 ON.out e1 hS.rd.left.right
  have BB0 := Lib.hid b0; have BB1 := Lib.hid b1
  clear e0 e1 q0 q1 hS hb3 b0 b1 z0 z1 z2 z3 z4 z5 y0 y1 y2 y3 y4 y5 hbd
  have ZA := Z3.out.alloc (.cells #[i64 s, i64 hd, i64 T9.a, .slice B0' n0 d0, .slice B1 n1 d1, .slice B2 n2 d2] 29)
  have z0 := ZA.cell 0; have z1 := ZA.cell 1; have z2 := ZA.cell 2; have z3 := ZA.cell 3; have z4 := ZA.cell 4; have z5 := ZA.cell 5; have y0 := ZA.frozen 0; have y1 := ZA.frozen 1; have y2 := ZA.frozen 2; have y3 := ZA.frozen 3; have y4 := ZA.frozen 4; have y5 := ZA.frozen 5
  simp at z0 z1 z2 z3 z4 z5
  have T4 := Lib.hid (T3.out.alloc (by omega) (.cells #[i64 s, i64 hd, i64 T9.a, .slice B0' n0 d0, .slice B1 n1 d1, .slice B2 n2 d2] 29))
  clear ZA
  cases p
  · go_wp2_with fail
    refine bodyPost_ret (v := .tuple #[.agg #[i64 0, i64 0, i64 0, .slice none 0 0, .slice none 0 0, .slice none 0 0], i64 5]) (by simp [results, Try.results36, go_sem, z0, z1, z2, z3, z4, z5]) rfl ?_
    rw [show R = (zeroF, 5) by rw [HRR.out]; rfl]
    exact (FoOut.bad 5 (below_set6 T4.out (by omega))).two
  · go_wp2_with fail
    refine bodyPost_ret (v := .tuple #[.agg #[i64 s, i64 hd, i64 T9.a, .slice B0' n0 d0, .slice B1 n1 d1, .slice B2 n2 d2], i64 0]) (by simp [results, Try.results36, go_sem, z0, z1, z2, z3, z4, z5]) rfl ?_
    rw [show R = ((s, hd, T9.a, T9.ws, T9.rs, T9.os), 0) by rw [HRR.out]; rfl]
    refine FoOut.two ⟨B0', n0, d0, js0, B1, n1, d1, js1, B2, n2, d2, rfl, ⟨?_, E01.out.1, E01.out.2, by have := HN0.out; omega, by omega, by have := HN2.out; omega, BB0.out, BB1.out⟩, below_set6 T4.out (by omega)⟩
    have hS := (S3.out.alloc (.cells #[i64 s, i64 hd, i64 T9.a, .slice B0' n0 d0, .slice B1 n1 d1, .slice B2 n2 d2] 29)).set6 (g := w.heap.size + 2) (u0 := i64 s) (u1 := i64 hd) (u2 := i64 T9.a) (u3 := .slice B0' n0 d0) (u4 := .slice B1 n1 d1) (u5 := .slice B2 n2 d2) (by omega)
    exact hS.wider (by omega) (by simp)
theorem sNormalFormula_c (sy st : Int) (A : Option Addr) (n cp : Nat) (rs : List Rule3) (s hd a : Int) (A0 : Option Addr) (n0 c0 : Nat) (its0 : List It) (A1 : Option Addr) (n1 c1 : Nat) (its1 : List It) (A2 : Option Addr) (n2 c2 : Nat) (os : List Int) (w : World) {W RP : List (List Int)}
    (h : RdS w [sgX enc3 3 A n rs]) (h' : RdS w (sgForm A0 n0 its0 A1 n1 its1 A2 n2 os)) (hn : n ≤ 1000000000) (hn' : n0 ≤ 1000000000) (hna : n1 ≤ 1000000000) (hnb : n2 ≤ 1000000000) (hi0 : ∀ t ∈ its0, t.n ≤ 1000000000) (hi1 : ∀ t ∈ its1, t.n ≤ 1000000000) (hw0 : its0.map It.xs = W) (hw1 : its1.map It.xs = RP) {RR : FR × Int} (hRR : nfR sy st rs s hd a W RP os = RR) :
    Calls Try.prog 36 #[.agg #[.int .i64 sy, .int .i64 st, .slice A n cp], .agg #[.int .i64 s, .int .i64 hd, .int .i64 a, .slice A0 n0 c0, .slice A1 n1 c1, .slice A2 n2 c2]] w (FoOut2 RR w) := by
  subst hw0; subst hw1; subst hRR
  exact sNormalFormula0_c sy st A n cp rs s hd a A0 n0 c0 its0 A1 n1 c1 its1 A2 n2 c2 os w h h' hn hn' hna hnb hi0 hi1
set_option maxHeartbeats 8000000 in
set_option maxRecDepth 100000 in
theorem iNormalFormula0_c (sy st : Int) (A : Option Addr) (n cp : Nat) (rs : List Rule3) (s hd a : Int) (A0 : Option Addr) (n0 c0 : Nat) (its0 : List It) (A1 : Option Addr) (n1 c1 : Nat) (its1 : List It) (A2 : Option Addr) (n2 c2 : Nat) (os : List Int) (w : World)
    (h : RdS w [sgX enc3 3 A n rs]) (h' : RdS w (sgForm A0 n0 its0 A1 n1 its1 A2 n2 os)) (hn : n ≤ 1000000000) (hn' : n0 ≤ 1000000000) (hna : n1 ≤ 1000000000) (hnb : n2 ≤ 1000000000) (hi0 : ∀ t ∈ its0, t.n ≤ 1000000000) (hi1 : ∀ t ∈ its1, t.n ≤ 1000000000) :
    Calls Try.prog 37 #[.agg #[.int .i64 sy, .int .i64 st, .slice A n cp], .agg #[.int .i64 s, .int .i64 hd, .int .i64 a, .slice A0 n0 c0, .slice A1 n1 c1, .slice A2 n2 c2]] w (FoOut2 (nfR sy st rs s hd a (its0.map It.xs) (its1.map It.xs) os) w) := by
  have H := Lib.hid h; have H' := Lib.hid h'
  have HL0 := Lib.hid (RdII.len h'.left.left); have HL1 := Lib.hid (RdII.len h'.left.right); have HL2 := Lib.hid (show os.length = n2 from RdI.len (show RdI w A2 n2 os from h'.right.head))
  clear h h'
  obtain ⟨w0, hw0⟩ : ∃ w0, ((w.alloc (.cells #[i64 sy, i64 st, .slice A n cp] 34)).alloc (.cells #[i64 s, i64 hd, i64 a, .slice A0 n0 c0, .slice A1 n1 c1, .slice A2 n2 c2] 29)).alloc (.cells #[i64 0, i64 0, i64 0, .slice none 0 0, .slice none 0 0, .slice none 0 0] 29) = w0 := ⟨_, rfl⟩
  obtain ⟨b0, b1, b2⟩ := boxes3 w #[i64 sy, i64 st, .slice A n cp] #[i64 s, i64 hd, i64 a, .slice A0 n0 c0, .slice A1 n1 c1, .slice A2 n2 c2] #[i64 0, i64 0, i64 0, .slice none 0 0, .slice none 0 0, .slice none 0 0] 34 29 29
  rw [hw0] at b0 b1 b2
  have B0 := Lib.hid (show Below w.heap.size w w0 by rw [← hw0]; exact ((below_size.alloc (Nat.le_refl _) _).alloc (by simp) _).alloc (by simp; omega) _)
  have M0 := Lib.hid b0; have F0 := Lib.hid b1
  have Z0 := Lib.hid (show Blk w0 (w.heap.size + 2) 29 #[i64 0, i64 0, i64 0, .slice none 0 0, .slice none 0 0, .slice none 0 0] from b2)
  have hz0 : w.heap.size + 3 ≤ w0.heap.size := by rw [← hw0]; simp
  obtain ⟨v, hv⟩ : ∃ v, vformB sy st rs s hd a (its0.map It.xs) (its1.map It.xs) os = v := ⟨_, rfl⟩
  obtain ⟨R, hR⟩ : ∃ R, nfR sy st rs s hd a (its0.map It.xs) (its1.map It.xs) os = R := ⟨_, rfl⟩
  rw [hR]
  have HR := Lib.hid hR
  have HV := Lib.hid hv
  have HI0 := Lib.hid hi0; have HI1 := Lib.hid hi1
  have HVC := Lib.hid (iValidFormula_c sy st A n cp rs s hd a A0 n0 c0 its0 A1 n1 c1 its1 A2 n2 c2 os w0 (H.out.below B0.out) (H'.out.below B0.out) hn hn' hna hnb hi0 hi1)
  rw [hv] at HVC
  clear hi0 hi1 hR b0 b1 b2 hv
  have m0 := M0.out.cell 0; have m1 := M0.out.cell 1; have m2 := M0.out.cell 2
  have k0 := F0.out.cell 0; have k1 := F0.out.cell 1; have k2 := F0.out.cell 2; have k3 := F0.out.cell 3; have k4 := F0.out.cell 4; have k5 := F0.out.cell 5
  simp at m0 m1 m2 k0 k1 k2 k3 k4 k5
  go_enter Try.func37, Try.ntmps37
  go_wp2_with fail
  refine HVC.out.mono ?_
  rintro e w2 ⟨rfl, hb⟩
  have T2 := Lib.hid (below_chain B0.out B0.out.size hb)
  have M2 := Lib.hid (M0.out.keep hb); have F2 := Lib.hid (F0.out.keep hb); have Z2 := Lib.hid (Z0.out.keep hb)
  have hz2 : w.heap.size + 3 ≤ w2.heap.size := Nat.le_trans hz0 hb.size
  clear hb HVC m0 m1 m2 k0 k1 k2 k3 k4 k5 hw0
  cases v
  · have z0 := Z2.out.cell 0; have z1 := Z2.out.cell 1; have z2 := Z2.out.cell 2; have z3 := Z2.out.cell 3; have z4 := Z2.out.cell 4; have z5 := Z2.out.cell 5; have y0 := Z2.out.frozen 0; have y1 := Z2.out.frozen 1; have y2 := Z2.out.frozen 2; have y3 := Z2.out.frozen 3; have y4 := Z2.out.frozen 4; have y5 := Z2.out.frozen 5
    simp at z0 z1 z2 z3 z4 z5
    go_wp2_with fail
    refine bodyPost_ret (v := .tuple #[.agg #[i64 0, i64 0, i64 0, .slice none 0 0, .slice none 0 0, .slice none 0 0], i64 1]) (by simp [results, Try.results37, go_sem, z0, z1, z2, z3, z4, z5]) rfl ?_
    rw [show R = (zeroF, 1) by rw [← HR.out, nfR, HV.out]; rfl]
    exact (FoOut.bad 1 (below_set6 T2.out (by omega))).two
  have HFB := Lib.hid (show machB sy st rs = true ∧ formB sy st s hd a (its0.map It.xs) (its1.map It.xs) os = true by have h := HV.out; rw [vformB, Bool.and_eq_true] at h; exact h)
  have FO := formB_ok HFB.out.2
  have hrl : (its1.map It.xs).length = n1 := by rw [List.length_map]; exact HL1.out
  have hr3 : 1 ≤ n1 ∧ n1 ≤ 3 := by have := FO.r; omega
  have hn0 : n0 = n1 + 1 := by have := FO.nw; rw [List.length_map, HL0.out, hrl] at this; exact this
  have hn2 : n2 = n1 := by have := FO.no; rw [HL2.out, hrl] at this; exact this
  have hhd := FO.hhd
  rw [hrl] at hhd
  obtain ⟨hh, rfl⟩ := Int.eq_ofNat_of_zero_le hhd.1
  have hhn : hh ≤ n1 := by omega
  have OK := Lib.hid (FO.okN hrl)
  obtain ⟨T9, hT9⟩ : ∃ T9, normN hh n1 ⟨a, its0.map It.xs, its1.map It.xs, os⟩ = T9 := ⟨_, rfl⟩
  obtain ⟨p, hp⟩ : ∃ p, formB sy st s hh T9.a T9.ws T9.rs T9.os = p := ⟨_, rfl⟩
  have HRR := Lib.hid (show R = if p then ((s, (hh : Int), T9.a, T9.ws, T9.rs, T9.os), 0) else (zeroF, 5) by
    rw [← HR.out, nfR, HV.out, if_pos rfl, nfT, hrl, hT9, hp])
  have HP := Lib.hid hp; have HT9 := Lib.hid hT9; have HN0 := Lib.hid hn0; have HN2 := Lib.hid hn2
  have hbd := machB_bd HFB.out.1
  clear FO hrl hp hT9 hn0 hn2 hhd
  have k0 := F2.out.cell 0; have k1 := F2.out.cell 1; have k2 := F2.out.cell 2; have k3 := F2.out.cell 3; have k4 := F2.out.cell 4; have k5 := F2.out.cell 5
  simp at k0 k1 k2 k3 k4 k5
  go_wp2_with fail
  refine (normalized_c s hh a A0 n0 c0 its0 A1 n1 c1 its1 A2 n2 c2 os _ (by exact H'.out.below T2.out) OK.out hr3 HN0.out HN2.out hhn).mono ?_
  rw [HT9.out]
  rintro e w3 ⟨g6, B0', d0, B1, d1, B2, d2, rfl, ⟨js0, js1, e0, e1, hF⟩, ok9⟩
  have NF3 := Lib.hid hF; have E01 := Lib.hid (And.intro e0 e1); have ON := Lib.hid ok9
  have b3 : Below w2.heap.size w2 w3 := hF.below
  have T3 := Lib.hid (below_chain T2.out T2.out.size b3)
  have M3 := Lib.hid (M2.out.keep b3); have Z3 := Lib.hid (Z2.out.keep b3)
  have hz3 := b3.size
  clear hF e0 e1 ok9 b3 k0 k1 k2 k3 k4 k5
  have q0 := NF3.out.form.d0; have q1 := NF3.out.form.d1; have q2 := NF3.out.form.d2; have q3 := NF3.out.form.d3; have q4 := NF3.out.form.d4; have q5 := NF3.out.form.d5
  have m0 := M3.out.cell 0; have m1 := M3.out.cell 1; have m2 := M3.out.cell 2
  simp at m0 m1 m2
  have x0 := Ext.cell q0; have x1 := Ext.cell q1; have x2 := Ext.cell q2; have x3 := Ext.cell q3; have x4 := Ext.cell q4; have x5 := Ext.cell q5; have x6 := Ext.cell m0; have x7 := Ext.cell m1; have x8 := Ext.cell m2
  have bb0 := jsB0 ON.out E01.out.1 NF3.out.form.r0; have bb1 := jsB1 ON.out E01.out.2 NF3.out.form.r1
  have BB0 := Lib.hid bb0; have BB1 := Lib.hid bb1
  clear bb0 bb1
  go_wp2_with fail
  refine Mix.wp_region_mix [3, 0, 0, 3, 1, 0] (fun w' => ∃ x : Ext w3, w' = x.w) (by kernel_rfl) (by kernel_rfl) (InExt.drew _) ?_
  repeat (first | (refine Mix.wpMix_read (by rfl) ?_; go_big_quiet_step (fail); refine wpQuiet_nil ?_) | (refine Mix.wpMix_pure (by rfl) ?_; go_big_quiet_step (fail); refine wpQuiet_nil ?_))
  refine Mix.wpMix_chg (by rfl) (fun K hK => ?_)
  go_wp2_with fail
  refine (formulaOf_c sy st A n cp s hh T9.a B0' n0 d0 js0 B1 n1 d1 js1 B2 n2 d2 T9.os p _ (by exact NF3.out.form.r0.drew) (by exact NF3.out.form.r1.drew) (by exact RdI.drew NF3.out.form.r2) hbd.1 hbd.2.1 (by have := HN0.out; omega) (by omega) (by have := HN2.out; omega) (fun t ht => by have := BB0.out t ht; omega) (fun t ht => by have := BB1.out t ht; omega) (by rw [E01.out.1, E01.out.2]; exact HP.out)).mono ?_
  rintro e w4 ⟨rfl, hb4⟩
  have E4 := Lib.hid (show Below w3.heap.size w3 w4 from below_of_drew hb4)
  clear hb4
  go_wp2_with fail
  refine hK _ _ ⟨⟨_, E4.out⟩, rfl⟩ ?_
  clear hK K
  repeat (first | (refine Mix.wpMix_read (by rfl) ?_; go_big_quiet_step (fail); refine wpQuiet_nil ?_) | (refine Mix.wpMix_pure (by rfl) ?_; go_big_quiet_step (fail); refine wpQuiet_nil ?_))
  (refine Mix.wpMix_nil ?_; try simp only [Exit.then])
  clear x0 x1 x2 x3 x4 x5 x6 x7 x8 q0 q1 q2 q3 q4 q5 m0 m1 m2 hbd
  have NF4 := Lib.hid (NF3.out.world E4.out)
  have T4 := Lib.hid (below_chain T3.out T3.out.size E4.out)
  have Z4 := Lib.hid (Z3.out.keep E4.out)
  have hz4 := E4.out.size
  cases p
  · have z0 := Z4.out.cell 0; have z1 := Z4.out.cell 1; have z2 := Z4.out.cell 2; have z3 := Z4.out.cell 3; have z4 := Z4.out.cell 4; have z5 := Z4.out.cell 5; have y0 := Z4.out.frozen 0; have y1 := Z4.out.frozen 1; have y2 := Z4.out.frozen 2; have y3 := Z4.out.frozen 3; have y4 := Z4.out.frozen 4; have y5 := Z4.out.frozen 5
    simp at z0 z1 z2 z3 z4 z5
    go_wp2_with fail
    refine bodyPost_ret (v := .tuple #[.agg #[i64 0, i64 0, i64 0, .slice none 0 0, .slice none 0 0, .slice none 0 0], i64 5]) (by simp [results, Try.results37, go_sem, z0, z1, z2, z3, z4, z5]) rfl ?_
    rw [show R = (zeroF, 5) by rw [HRR.out]; rfl]
    exact (FoOut.bad 5 (below_set6 T4.out (by omega))).two
  · have q0 := NF4.out.form.d0; have q1 := NF4.out.form.d1; have q2 := NF4.out.form.d2; have q3 := NF4.out.form.d3; have q4 := NF4.out.form.d4; have q5 := NF4.out.form.d5
    go_wp2_with fail
    refine (copyFormula_c s hh T9.a B0' n0 d0 js0 B1 n1 d1 js1 B2 n2 d2 T9.os _ (by exact NF4.out.wr.tail.rd) (by have := HN0.out; omega) (by omega) (by have := HN2.out; omega) (fun t ht => by have := BB0.out t ht; omega) (fun t ht => by have := BB1.out t ht; omega)).mono ?_
    rintro e w5 ⟨g7, C0, f0, ks0, C1, f1, ks1, C2, f2, rfl, e0, e1, hF5⟩
    have NF5 := Lib.hid hF5; have K01 := Lib.hid (And.intro (e0.trans E01.out.1) (e1.trans E01.out.2))
    have hb5 : Below w4.heap.size w4 w5 := hF5.below
    have T5 := Lib.hid (below_chain T4.out T4.out.size hb5)
    have Z5 := Lib.hid (Z4.out.keep hb5)
    have hz5 := hb5.size
    clear hF5 e0 e1 hb5 q0 q1 q2 q3 q4 q5
    have q0 := NF5.out.form.d0; have q1 := NF5.out.form.d1; have q2 := NF5.out.form.d2; have q3 := NF5.out.form.d3; have q4 := NF5.out.form.d4; have q5 := NF5.out.form.d5
    have z0 := Z5.out.cell 0; have z1 := Z5.out.cell 1; have z2 := Z5.out.cell 2; have z3 := Z5.out.cell 3; have z4 := Z5.out.cell 4; have z5 := Z5.out.cell 5; have y0 := Z5.out.frozen 0; have y1 := Z5.out.frozen 1; have y2 := Z5.out.frozen 2; have y3 := Z5.out.frozen 3; have y4 := Z5.out.frozen 4; have y5 := Z5.out.frozen 5
    simp at z0 z1 z2 z3 z4 z5
    go_wp2_with fail
    refine bodyPost_ret (v := .tuple #[.agg #[i64 s, i64 hh, i64 T9.a, .slice C0 n0 f0, .slice C1 n1 f1, .slice C2 n2 f2], i64 0]) (by simp [results, Try.results37, go_sem, z0, z1, z2, z3, z4, z5]) rfl ?_
    rw [show R = ((s, (hh : Int), T9.a, T9.ws, T9.rs, T9.os), 0) by rw [HRR.out]; rfl]
    have c0 := jsB0 ON.out K01.out.1 NF5.out.form.r0; have c1 := jsB1 ON.out K01.out.2 NF5.out.form.r1
    refine FoOut.two ⟨C0, n0, f0, ks0, C1, n1, f1, ks1, C2, n2, f2, rfl, ⟨?_, K01.out.1, K01.out.2, by have := HN0.out; omega, by omega, by have := HN2.out; omega, c0, c1⟩, below_set6 T5.out (by omega)⟩
    have hS := NF5.out.wr.tail.set6 (g := w.heap.size + 2) (u0 := i64 s) (u1 := i64 hh) (u2 := i64 T9.a) (u3 := .slice C0 n0 f0) (u4 := .slice C1 n1 f1) (u5 := .slice C2 n2 f2) (by omega)
    exact hS.wider (by omega) (by simp)
theorem iNormalFormula_c (sy st : Int) (A : Option Addr) (n cp : Nat) (rs : List Rule3) (s hd a : Int) (A0 : Option Addr) (n0 c0 : Nat) (its0 : List It) (A1 : Option Addr) (n1 c1 : Nat) (its1 : List It) (A2 : Option Addr) (n2 c2 : Nat) (os : List Int) (w : World) {W RP : List (List Int)}
    (h : RdS w [sgX enc3 3 A n rs]) (h' : RdS w (sgForm A0 n0 its0 A1 n1 its1 A2 n2 os)) (hn : n ≤ 1000000000) (hn' : n0 ≤ 1000000000) (hna : n1 ≤ 1000000000) (hnb : n2 ≤ 1000000000) (hi0 : ∀ t ∈ its0, t.n ≤ 1000000000) (hi1 : ∀ t ∈ its1, t.n ≤ 1000000000) (hw0 : its0.map It.xs = W) (hw1 : its1.map It.xs = RP) {RR : FR × Int} (hRR : nfR sy st rs s hd a W RP os = RR) :
    Calls Try.prog 37 #[.agg #[.int .i64 sy, .int .i64 st, .slice A n cp], .agg #[.int .i64 s, .int .i64 hd, .int .i64 a, .slice A0 n0 c0, .slice A1 n1 c1, .slice A2 n2 c2]] w (FoOut2 RR w) := by
  subst hw0; subst hw1; subst hRR
  exact iNormalFormula0_c sy st A n cp rs s hd a A0 n0 c0 its0 A1 n1 c1 its1 A2 n2 c2 os w h h' hn hn' hna hnb hi0 hi1
end Go.Proofs.Ytmmgejnhfpfmnaa
