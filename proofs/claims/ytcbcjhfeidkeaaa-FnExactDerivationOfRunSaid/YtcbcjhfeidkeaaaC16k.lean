/-
  Contracts of chapter 16: the only step of a word, of the program.
-/
import Derived.Test.YtcbcjhfeidkeaaaC16i
namespace Go.Proofs.Ytcbcjhfeidkeaaa
open Go.RowKit

/-- a list of rules that is only read -/
structure RwD (w : World) (P : Option Addr) (m : Nat) (ts : List RwT) : Prop where
  head : Rd w P (m * 2) (ts.flatMap hdR)
  fr : ∀ t ∈ ts, RdI w t.fA t.fn t.fx
  tt : ∀ t ∈ ts, RdI w t.tA t.tn t.tx
theorem RwD.below {w w' : World} {P : Option Addr} {m : Nat} {ts : List RwT} (h : RwD w P m ts) (hb : Below w.heap.size w w') : RwD w' P m ts := ⟨h.head.below hb, fun t ht => RdI.below (h.fr t ht) hb, fun t ht => RdI.below (h.tt t ht) hb⟩
theorem RwL.rwD {w : World} {B L k pc : Nat} {P : Option Addr} {ts : List RwT} (h : RwL w B L P k pc ts) : RwD w P k ts := ⟨h.own.wrK.rd, h.fr, h.to⟩
theorem RwD.len {w : World} {P : Option Addr} {m : Nat} {ts : List RwT} (h : RwD w P m ts) : ts.length = m := by
  have h1 := h.head.1
  rw [flatX_len hdR 2 hdR_len] at h1; omega
theorem RwD.at_ {w : World} {P : Option Addr} {m k : Nat} {ts : List RwT} (h : RwD w P m ts) (hk : k < m) : ∃ ad t, P = some ad ∧ ts[k]? = some t ∧ w.cell? (ad.add (k * 2)) = some (.slice t.fA t.fn t.fc) ∧ w.cell? ⟨(ad.add (k * 2)).block, (ad.add (k * 2)).off + 1, none⟩ = some (.slice t.tA t.tn t.tc) ∧ RdI w t.fA t.fn t.fx ∧ RdI w t.tA t.tn t.tx := by
  obtain ⟨ad, e, hlt, hc⟩ := h.head.2 (by omega)
  have hl := h.len
  have hx : ts[k]? = some ts[k] := List.getElem?_eq_getElem (by omega)
  have h0 := flatX_at hdR 2 hdR_len ts k 0 _ hx (by omega)
  have h1 := flatX_at hdR 2 hdR_len ts k 1 _ hx (by omega)
  exact ⟨ad, ts[k], e, hx, hc _ _ h0, by rw [next_off ad (k * 2) 0]; exact hc _ _ h1, h.fr _ (List.mem_of_getElem? hx), h.tt _ (List.mem_of_getElem? hx)⟩
/-- a step: its rule, its place, the word behind it -/
def MvOut (MV : Option (Nat × Nat × List Int)) (w : World) (e' : Ending) (w' : World) : Prop :=
  match MV with
  | none => e' = .returned (.tuple #[.agg #[i64 0, i64 0, .slice none 0 0], .bool false]) ∧ Below w.heap.size w w'
  | some (k, a, R) => ∃ A c', e' = .returned (.tuple #[.agg #[i64 k, i64 a, .slice A R.length c'], .bool true]) ∧ Wr w' w.heap.size w'.heap.size A R.length (R.map i64) ∧ R.length ≤ c' ∧ Below w.heap.size w w'
set_option maxHeartbeats 8000000 in
set_option maxRecDepth 100000 in
theorem onlyMove_c (s e : Int) (P : Option Addr) (m pc : Nat) (ts : List RwT) (X : List Rw) (WA : Option Addr) (n c : Nat) (ws : List Int) (MV : Option (Nat × Nat × List Int)) (w : World) (hL : RwD w P m ts) (hX : ts.map datR = X) (hg : ∀ r ∈ X, GoodR s e r) (h : RdI w WA n ws) (hw : ∃ j, OneS (stB s e) ws j) (hn : n ≤ 400) (hnc : n ≤ c) (hm : m ≤ 60) (hMV : moveR (stB s e) ws X 0 = MV) :
    Calls Try.prog 85 #[.agg #[.int .i64 s, .int .i64 e], .slice P m pc, .slice WA n c] w (MvOut MV w) := by
  have hl := h.len
  obtain ⟨j, hj⟩ := hw
  have hjn : j < n := by obtain ⟨⟨x, hx, _⟩, _⟩ := hj; have := (List.getElem?_eq_some_iff.1 hx).1; omega
  have FJ := Lib.hid (show firstS (stB s e) 0 ws = (j : Int) by rw [firstS_one hj]; omega)
  obtain ⟨w0, hw0⟩ : ∃ w0, (w.alloc (.cells #[.int .i64 s, .int .i64 e] 99)).alloc (.cells #[.int .i64 0, .int .i64 0, .slice none 0 0] 75) = w0 := ⟨_, rfl⟩
  have E0 := Lib.hid (show Below w.heap.size w w0 by rw [← hw0]; exact (below_size.alloc (Nat.le_refl _) _).alloc (by simp) _)
  have KA := Lib.hid (show Blk w0 w.heap.size 99 #[.int .i64 s, .int .i64 e] by rw [← hw0]; exact (Blk.new _ _ _).alloc _)
  have KC := Lib.hid (show Blk w0 (w.heap.size + 1) 75 #[.int .i64 0, .int .i64 0, .slice none 0 0] by rw [← hw0]; exact blk_new2 _ _ _ _ (by simp))
  have H := Lib.hid (RdI.below h E0.out); have HD := Lib.hid (hL.below E0.out)
  obtain ⟨wad, _, rfl, _, _, _⟩ := RdI.at_ h hjn
  have HX := Lib.hid hX; have HG := Lib.hid hg; have HMV := Lib.hid hMV
  have HLT := Lib.hid hL.len
  clear h hL hX hg hMV hj hl
  go_enter Try.func85, Try.ntmps85
  go_wp2_with fail
  refine (indexMove_c s e (some wad) n c w.heap.size ws w0 KA.out H.out (by omega)).mono ?_
  rintro e' w' ⟨rfl, rfl⟩
  rw [FJ.out]
  go_wp2_with fail
  clear hw0
  go_loopw [19] (fun iv wr => ∃ k : Nat, k ≤ m ∧ iv = .int .i64 k ∧ Hid (moveR (stB s e) ws (X.drop k) k = MV) ∧ Below w0.heap.size w0 wr) (fun iv _ => m - (intOf iv).toNat)
  case atStart => exact ⟨0, by omega, rfl, HMV.out, below_size⟩
  case round =>
    obtain ⟨k, hk, rfl, hr, hb⟩ := hrel
    have ER := Lib.hid (below_chain E0.out E0.out.size hb)
    have KAr := Lib.hid (KA.out.keep hb); have KCr := Lib.hid (KC.out.keep hb)
    have HB := Lib.hid hb
    by_cases hlt : k < m
    · obtain ⟨ad, t, rfl, ht, hc0, hc1, hf, hto⟩ := (HD.out.below hb).at_ hlt
      have hXk : X[k]? = some (t.fx, t.tx) := by rw [← HX.out, List.getElem?_map, ht]; rfl
      have hgr := HG.out _ (List.mem_of_getElem? hXk)
      obtain ⟨i, hi⟩ := hgr.fr
      have hfl := hf.len; have htl := hto.len
      have hsz := hgr.sz
      simp only at hsz
      have FI := Lib.hid (show firstS (stB s e) 0 t.fx = (i : Int) by rw [firstS_one hi]; omega)
      have hin : i < 5 := by
        obtain ⟨⟨x, hx, _⟩, _⟩ := hi
        have h2 : i < t.fx.length := (List.getElem?_eq_some_iff.1 hx).1
        omega
      have HS := Lib.hid (show (if 0 ≤ (j : Int) - (i : Int) ∧ t.fx <+: ws.drop ((j : Int) - (i : Int)).toNat then
          some (k, ((j : Int) - (i : Int)).toNat, ws.take ((j : Int) - (i : Int)).toNat ++ (t.tx ++ ws.drop (((j : Int) - (i : Int)).toNat + t.fx.length))) else moveR (stB s e) ws (X.drop (k + 1)) (k + 1)) = MV by
        have h1 := hr.out
        rw [drop_at hXk, moveR, FJ.out, FI.out] at h1
        exact h1)
      have hfn : t.fn ≤ 5 := by omega
      have htn : t.tn ≤ 5 := by omega
      have HF := Lib.hid hf; have HT := Lib.hid hto; have HFL := Lib.hid hfl
      clear hr hb ht hXk hgr hi hf hto hfl htl hsz
      go_wp2_with fail
      obtain ⟨w1, hw1⟩ : ∃ w1, wr.alloc (.cells #[.slice t.fA t.fn t.fc, .slice t.tA t.tn t.tc] 85) = w1 := ⟨_, rfl⟩
      have E1r := Lib.hid (show Below wr.heap.size wr w1 by rw [← hw1]; exact below_size.alloc (Nat.le_refl _) _)
      have E1 := Lib.hid (below_chain ER.out ER.out.size E1r.out)
      have KA1 := Lib.hid (KAr.out.keep E1r.out); have KC1 := Lib.hid (KCr.out.keep E1r.out)
      have KT1 := Lib.hid (show Blk w1 wr.heap.size 85 #[.slice t.fA t.fn t.fc, .slice t.tA t.tn t.tc] by rw [← hw1]; exact Blk.new _ _ _)
      have HF1 := Lib.hid (RdI.below HF.out E1r.out); have HT1 := Lib.hid (RdI.below HT.out E1r.out)
      have HW1 := Lib.hid (RdI.below (RdI.below H.out HB.out) E1r.out)
      have EB1 := Lib.hid (HB.out.trans (E1r.out.mono HB.out.size))
      rw [hw1]
      clear hw1 hc0 hc1 KAr KCr HF HT ER
      refine (indexMove_c s e t.fA t.fn t.fc w.heap.size t.fx w1 KA1.out HF1.out (by omega)).mono ?_
      rintro e' w' ⟨rfl, rfl⟩
      rw [FI.out]
      have t0 : w1.cell? ⟨wr.heap.size, 0, none⟩ = some (.slice t.fA t.fn t.fc) := KT1.out.cell 0
      have t1 : w1.cell? ⟨wr.heap.size, 1, none⟩ = some (.slice t.tA t.tn t.tc) := KT1.out.cell 1
      by_cases hij : i ≤ j
      · obtain ⟨a, ha⟩ : ∃ a, j = a + i := ⟨j - i, by omega⟩
        have v1 : IntKind.i64.wrap ((j : Int) - (i : Int)) = (a : Int) := by rw [IntWalk.i64_in _ (by omega)]; omega
        have v3 : (j : Int) - (i : Int) = (a : Int) := by omega
        have HS2 := Lib.hid (show (if t.fx <+: ws.drop a then some (k, a, ws.take a ++ (t.tx ++ ws.drop (a + t.fx.length))) else moveR (stB s e) ws (X.drop (k + 1)) (k + 1)) = MV by
          have h1 := HS.out
          rw [v3, Int.toNat_natCast] at h1
          by_cases hp : t.fx <+: ws.drop a
          · rw [if_pos ⟨by omega, hp⟩] at h1; rw [if_pos hp]; exact h1
          · rw [if_neg (fun h => hp h.2)] at h1; rw [if_neg hp]; exact h1)
        have HWA := Lib.hid (RdI.drop HW1.out (k := a) (by omega))
        have hac : a < c := by omega
        obtain ⟨q, hq⟩ : ∃ q, decide (t.fx <+: ws.drop a) = q := ⟨_, rfl⟩
        have HQ := Lib.hid hq
        clear HS ha hij
        cases q
        · have HN := Lib.hid (show moveR (stB s e) ws (X.drop (k + 1)) (k + 1) = MV by rw [← HS2.out, if_neg (of_decide_eq_false hq)])
          clear hq HS2
          go_wp2_with fail
          go_quiet ((go_at_call 99; first | exact Calls.quiet_of (begins_c (some (wad.add a)) (n - a) (c - a) (ws.drop a) t.fA t.fn t.fc t.fx false _ (by exact HWA.out) (by exact HF1.out) (by omega) (by omega) (by omega) HQ.out) | exact quiet_add (begins_c (some (wad.add a)) (n - a) (c - a) (ws.drop a) t.fA t.fn t.fc t.fx false _ (by exact HWA.out) (by exact HF1.out) (by omega) (by omega) (by omega) HQ.out)))
          go_wp2_with fail
          go_roundw
          case rel => exact ⟨k + 1, by omega, by go_num, HN.out, below_drewN EB1.out nq⟩
          case measure => simp [intOf]; omega
        · have HN := Lib.hid (show some (k, a, ws.take a ++ (t.tx ++ ws.drop (a + t.fx.length))) = MV by rw [← HS2.out, if_pos (of_decide_eq_true hq)])
          have haf : a + t.fn ≤ n := by
            have h1 := (of_decide_eq_true hq).length_le
            have h2 := HWA.out.len; have h3 := HFL.out
            omega
          clear hq HS2
          go_wp2_with fail
          go_quiet ((go_at_call 99; first | exact Calls.quiet_of (begins_c (some (wad.add a)) (n - a) (c - a) (ws.drop a) t.fA t.fn t.fc t.fx true _ (by exact HWA.out) (by exact HF1.out) (by omega) (by omega) (by omega) HQ.out) | exact quiet_add (begins_c (some (wad.add a)) (n - a) (c - a) (ws.drop a) t.fA t.fn t.fc t.fx true _ (by exact HWA.out) (by exact HF1.out) (by omega) (by omega) (by omega) HQ.out)))
          go_wp2_with fail
          obtain ⟨w2, hw2⟩ : ∃ w2, w1.drewN nq = w2 := ⟨_, rfl⟩
          have E2 := Lib.hid (show Below w.heap.size w w2 by rw [← hw2]; exact below_drewN E1.out nq)
          have KC2 := Lib.hid (show Blk w2 (w.heap.size + 1) 75 #[.int .i64 0, .int .i64 0, .slice none 0 0] by rw [← hw2]; exact KC1.out.drewN nq)
          have HW2 := Lib.hid (show RdI w2 (some wad) n ws by rw [← hw2]; exact HW1.out)
          have HT2 := Lib.hid (show RdI w2 t.tA t.tn t.tx by rw [← hw2]; exact HT1.out)
          obtain ⟨R, hR⟩ : ∃ R, ws.take a ++ (t.tx ++ ws.drop (a + t.fn)) = R := ⟨_, rfl⟩
          have HN2 := Lib.hid (show some (k, a, R) = MV by rw [← HN.out, ← hR, HFL.out])
          have HRR := Lib.hid hR
          have hz2 : w.heap.size + 1 < w2.heap.size := KC2.out.lt
          rw [hw2]
          clear hw2 hR HN t0 t1 v1 v3
          refine (replaced_c wad n c a t.fn ws t.tA t.tn t.tc t.tx R w2 HW2.out HT2.out (by omega) hnc (by omega) haf HRR.out).mono ?_
          rintro e' w4 ⟨A4, c4, rfl, hR4, hc4, hb4⟩
          have E4 := Lib.hid (below_chain E2.out E2.out.size hb4)
          have KC4 := Lib.hid (KC2.out.keep hb4)
          have R4 := Lib.hid hR4
          obtain ⟨rl, hrl⟩ : ∃ rl, R.length = rl := ⟨_, rfl⟩
          have HRL := Lib.hid hrl
          rw [hrl] at hc4 ⊢
          clear hR4 hb4 hrl
          have z0 : w4.cell? ⟨w.heap.size + 1, 0, none⟩ = some (.int .i64 0) := KC4.out.cell 0
          have z1 : w4.cell? ⟨w.heap.size + 1, 1, none⟩ = some (.int .i64 0) := KC4.out.cell 1
          have z2 : w4.cell? ⟨w.heap.size + 1, 2, none⟩ = some (.slice none 0 0) := KC4.out.cell 2
          have f0 := KC4.out.frozen 0; have f1 := KC4.out.frozen 1; have f2 := KC4.out.frozen 2
          go_wp2_with fail
          obtain ⟨w9, hw9⟩ : ∃ w9, ((w4.setCell ⟨w.heap.size + 1, 0, none⟩ (.int .i64 k)).setCell ⟨w.heap.size + 1, 1, none⟩ (.int .i64 a)).setCell ⟨w.heap.size + 1, 2, none⟩ (.slice A4 rl c4) = w9 := ⟨_, rfl⟩
          rw [hw9]
          have KZ : Blk w9 (w.heap.size + 1) 75 #[.int .i64 k, .int .i64 a, .slice A4 rl c4] := by rw [← hw9]; exact (((KC4.out.set_ 0 _).set_ 1 _).set_ 2 _)
          have BZ : Below w.heap.size w w9 := by rw [← hw9]; exact ((E4.out.setCell (by simp) _).setCell (by simp) _).setCell (by simp) _
          have RZ : Wr w9 w.heap.size w9.heap.size A4 R.length (R.map i64) := by
            rw [show w9.heap.size = w4.heap.size by rw [← hw9]; simp, ← hw9]
            exact (((R4.out.set_far (.inl hz2) _).set_far (.inl hz2) _).set_far (.inl hz2) _).wider E2.out.size (Nat.le_refl _)
          have y0 : w9.cell? ⟨w.heap.size + 1, 0, none⟩ = some (.int .i64 k) := KZ.cell 0
          have y1 : w9.cell? ⟨w.heap.size + 1, 1, none⟩ = some (.int .i64 a) := KZ.cell 1
          have y2 : w9.cell? ⟨w.heap.size + 1, 2, none⟩ = some (.slice A4 rl c4) := KZ.cell 2
          clear hw9 KZ
          refine bodyPost_ret (v := .tuple #[.agg #[.int .i64 k, .int .i64 a, .slice A4 rl c4], .bool true]) (by simp [results, Try.results85, go_sem, y0, y1, y2]) rfl ?_
          rw [← HN2.out]
          exact ⟨A4, c4, by rw [HRL.out], RZ, by rw [HRL.out]; exact hc4, BZ⟩
      · have HN := Lib.hid (show moveR (stB s e) ws (X.drop (k + 1)) (k + 1) = MV by rw [← HS.out, if_neg (fun h => by omega)])
        have g0 : decide ((0 : Int) ≤ (j : Int) - (i : Int)) = false := by rw [decide_eq_false_iff_not]; omega
        clear HS
        go_wp2_with fail
        go_quiet (fail)
        go_wp2_with fail
        go_roundw
        case rel => exact ⟨k + 1, by omega, by go_num, HN.out, below_drewN EB1.out nq⟩
        case measure => simp [intOf]; omega
    · have HN := Lib.hid (show none = MV by rw [← hr.out, List.drop_eq_nil_of_le (by rw [← HX.out, List.length_map, HLT.out]; omega)]; rfl)
      clear hr hb
      have z0 : wr.cell? ⟨w.heap.size + 1, 0, none⟩ = some (.int .i64 0) := KCr.out.cell 0
      have z1 : wr.cell? ⟨w.heap.size + 1, 1, none⟩ = some (.int .i64 0) := KCr.out.cell 1
      have z2 : wr.cell? ⟨w.heap.size + 1, 2, none⟩ = some (.slice none 0 0) := KCr.out.cell 2
      have f0 := KCr.out.frozen 0; have f1 := KCr.out.frozen 1; have f2 := KCr.out.frozen 2
      go_wp2_with fail
      obtain ⟨w9, hw9⟩ : ∃ w9, ((wr.setCell ⟨w.heap.size + 1, 0, none⟩ (.int .i64 0)).setCell ⟨w.heap.size + 1, 1, none⟩ (.int .i64 0)).setCell ⟨w.heap.size + 1, 2, none⟩ (.slice none 0 0) = w9 := ⟨_, rfl⟩
      rw [hw9]
      have KZ : Blk w9 (w.heap.size + 1) 75 #[.int .i64 0, .int .i64 0, .slice none 0 0] := by rw [← hw9]; exact (((KCr.out.set_ 0 _).set_ 1 _).set_ 2 _)
      have BZ : Below w.heap.size w w9 := by rw [← hw9]; exact ((ER.out.setCell (by simp) _).setCell (by simp) _).setCell (by simp) _
      have y0 : w9.cell? ⟨w.heap.size + 1, 0, none⟩ = some (.int .i64 0) := KZ.cell 0
      have y1 : w9.cell? ⟨w.heap.size + 1, 1, none⟩ = some (.int .i64 0) := KZ.cell 1
      have y2 : w9.cell? ⟨w.heap.size + 1, 2, none⟩ = some (.slice none 0 0) := KZ.cell 2
      clear hw9 KZ
      refine bodyPost_ret (v := .tuple #[.agg #[.int .i64 0, .int .i64 0, .slice none 0 0], .bool false]) (by simp [results, Try.results85, go_sem, y0, y1, y2]) rfl ?_
      rw [← HN.out]
      exact ⟨rfl, BZ⟩
end Go.Proofs.Ytcbcjhfeidkeaaa
