/-
  Reading, third part: digits, words, lists of numbers, on both sides.
-/
import Derived.Test.YtdendllginlidaaDoorCSb
import Derived.Test.YtdendllginlidaaDoorKpB
import Derived.Test.YtdendllginlidaaDoorPRw
namespace Go.Proofs.YtdendllginlidaaDoor
open Go.RowKit

theorem cellsP_succ {s : List UInt8} {i : Nat} {b : UInt8} (h : s[i]? = some b) : cellsP (s.take (i + 1)) = cellsP (s.take i) ++ [(b.toNat : Int) - 48] := by rw [take_at h, cellsP, List.map_append]; rfl
theorem dgR_yes {s : List UInt8} {i : Nat} {b : UInt8} (h : s[i]? = some b) (hb : 48 ≤ b.toNat ∧ b.toNat ≤ 57) (hd : dgR s = (dgR (s.drop i)).map (cellsP (s.take i) ++ ·)) : dgR s = (dgR (s.drop (i + 1))).map (cellsP (s.take (i + 1)) ++ ·) := by
  rw [hd, drop_at h, dgR, if_pos hb, Option.map_map, cellsP_succ h]
  congr 1; funext u; simp
theorem dgR_no {s : List UInt8} {i : Nat} {b : UInt8} (h : s[i]? = some b) (hb : ¬ (48 ≤ b.toNat ∧ b.toNat ≤ 57)) (hd : dgR s = (dgR (s.drop i)).map (cellsP (s.take i) ++ ·)) : dgR s = none := by
  rw [hd, drop_at h, dgR, if_neg hb]; rfl
theorem dgR_end {s : List UInt8} (hd : dgR s = (dgR (s.drop s.length)).map (cellsP (s.take s.length) ++ ·)) : dgR s = some (cellsP s) := by
  rw [hd, List.drop_length, dgR, Option.map_some, List.append_nil, List.take_length]
theorem RdOwn.at_ {wr : World} {g m k : Nat} {w2 : World} {C : Option Addr} {A : Option Addr} {c B : Nat} {L : List (List UInt8)} (h : Own w2 B 9 1 A m c (L.map fun l => .string (bs l))) (hB : g < B) (hk : KpB g w2 wr C) (hm : k < m) : ∃ ad x, A = some ad ∧ L[k]? = some x ∧ wr.cell? (ad.add k) = some (.string (bs x)) := by
  obtain ⟨ad, v, rfl, h1, _, _, hv, hc, _⟩ := h.wr.at_ hm
  rw [List.getElem?_map] at hv
  cases hx : L[k]? with
  | none => rw [hx] at hv; cases hv
  | some x =>
    rw [hx] at hv; injection hv with hv; subst hv
    exact ⟨ad, x, rfl, rfl, hk.cell (by rw [block_add]; omega) hc⟩
theorem allD_no {parts : List (List UInt8)} {k : Nat} {x : List UInt8} {acc : List Int} (h : parts[k]? = some x) (hx : numD x = none) (hd : allD parts = (allD (parts.drop k)).map (acc ++ ·)) : allD parts = none := by rw [hd, drop_at h, allD_none hx]; rfl
theorem allD_yes {parts : List (List UInt8)} {k : Nat} {x : List UInt8} {acc : List Int} {n : Int} (h : parts[k]? = some x) (hx : numD x = some n) (hd : allD parts = (allD (parts.drop k)).map (acc ++ ·)) : allD parts = (allD (parts.drop (k + 1))).map ((acc ++ [n]) ++ ·) := by
  rw [hd, drop_at h, allD_some hx, Option.map_map]
  congr 1; funext u; simp
theorem allD_end {parts : List (List UInt8)} {k : Nat} {acc : List Int} (hk : parts.length ≤ k) (hd : allD parts = (allD (parts.drop k)).map (acc ++ ·)) : allD parts = some acc := by rw [hd, List.drop_eq_nil_of_le hk, allD, Option.map_some, List.append_nil]
theorem numV_no {x : List UInt8} {v : Int} (h : numV (numD x) = (v, false)) : numD x = none := by
  cases hn : numD x with
  | none => rfl
  | some n => rw [hn] at h; injection h with _ h; cases h
theorem numV_yes {x : List UInt8} {v : Int} (h : numV (numD x) = (v, true)) : numD x = some v := by
  cases hn : numD x with
  | none => rw [hn] at h; injection h with _ h; cases h
  | some n => rw [hn] at h; injection h with h _; rw [h]
theorem spl_piece (c : UInt8) (s : List UInt8) : ∀ x ∈ spl c s, x.length ≤ s.length := by
  refine spl_ind (c := c) (P := fun s => ∀ x ∈ spl c s, x.length ≤ s.length) (fun s h x hx => ?_) (fun a b ha ih x hx => ?_) s
  · rw [spl_none h, List.mem_singleton] at hx; subst hx; exact Nat.le_refl _
  · rw [spl_at b ha] at hx
    rw [List.length_append, List.length_cons]
    rcases List.mem_cons.1 hx with rfl | hx
    · omega
    · have := ih x hx; omega
set_option maxHeartbeats 2000000 in
set_option maxRecDepth 100000 in
theorem readDecimals_c (s : List UInt8) (R : List Int × Bool) (hR : numsV (allD (spl 44 s)) = R) (w : World) (hL : LibS w) (hs : s.length ≤ 1048576) :
    Calls Tryd.prog 13 #[.string (bs s)] w (NumsOut R w) := by
  obtain ⟨parts, hp⟩ : ∃ p, spl 44 s = p := ⟨_, rfl⟩
  obtain ⟨m, hm⟩ : ∃ m, parts.length = m := ⟨_, rfl⟩
  have hmb : m ≤ 1048577 := by rw [← hm, ← hp, spl_len]; have := List.count_le_length (a := 44) (l := s); omega
  have HPL := Lib.hid (show ∀ x ∈ parts, x.length ≤ 1048576 from fun x hx => by have := spl_piece 44 s x (by rw [hp]; exact hx); omega)
  rw [hp] at hR
  have HP := Lib.hid hp; have HM := Lib.hid hm; have HR := Lib.hid hR; have HL := Lib.hid hL; have HS := Lib.hid hs
  have BW := Lib.hid (show Below w.heap.size w (w.alloc (.cells #[] 2)) from below_size.alloc (Nat.le_refl _) _)
  have HSP := Lib.hid (show Calls Tryd.prog 25 #[.string (bs s), .string ⟨#[44]⟩] (w.alloc (.cells #[] 2)) (StrOut parts m (w.alloc (.cells #[] 2))) by
    have := Split_c s 44 m (by rw [hp, hm]) (w.alloc (.cells #[] 2)) (hL.alloc _) hs
    rw [hp] at this; exact this)
  have OW := Lib.hid (show Own (w.alloc (.cells #[] 2)) w.heap.size 2 1 (some ⟨w.heap.size, 0, none⟩) 0 0 [] from Own.lit (Nat.le_refl _))
  clear hp hm hR hL hs
  go_enter Tryd.func13, Tryd.ntmps13
  go_wp2_with (go_at_call 25; refine HSP.out.mono ?_; rintro e w2 ⟨A, c, rfl, hA, hb2⟩; have PA := Lib.hid hA; have B2 := Lib.hid (BW.out.trans (hb2.mono BW.out.size)); have O2 := Lib.hid (OW.out.keep hb2); clear hA hb2)
  go_loopw [4, 13] (fun ov iv wr => ∃ (i : Nat) (acc : List Int) (C : Option Addr) (cc : Nat), iv = .int .i64 i ∧ ov = .slice C i cc ∧ i ≤ m ∧ Hid (allD parts = (allD (parts.drop i)).map (acc ++ ·)) ∧ Hid (Own wr w.heap.size 2 1 C i cc (acc.map i64)) ∧ KpB w.heap.size w2 wr C ∧ Below w.heap.size w wr) (fun _ iv _ => m - (intOf iv).toNat)
  case atStart => exact ⟨0, [], _, _, rfl, rfl, by omega, by simp [Hid], O2.out, KpB.start fun ad e => (by injection e with e; rw [← e]), B2.out⟩
  case round =>
    obtain ⟨i, acc, C, cc, rfl, rfl, hi, hd, hO, hkp, hb⟩ := hrel
    have HB := Lib.hid hb; have HK := Lib.hid hkp
    have hwz := hb.size
    by_cases hlt : i < m
    · obtain ⟨ad, x, rfl, hx, hc⟩ := RdOwn.at_ PA.out (g := w.heap.size) (by simp) hkp hlt
      obtain ⟨⟨v, q⟩, hv⟩ : ∃ r, numV (numD x) = r := ⟨_, rfl⟩
      have HC := Lib.hid (ReadDecimal_c x v q wr (HL.out.below hb) (HPL.out x (List.mem_of_getElem? hx)) hv)
      cases q
      · have HG := Lib.hid (show (([], false) : List Int × Bool) = R by rw [← HR.out, allD_no hx (numV_no hv) hd.out]; rfl)
        clear hx hv hd hb hkp
        go_wp2_with (go_at_call 26; refine HC.out.mono ?_; rintro e w4 ⟨rfl, hb4⟩; have B4 := Lib.hid (HB.out.trans (hb4.mono hwz)); clear hb4)
        go_ret2
        rw [← HG.out]
        exact NumsOut.bad B4.out
      · have HD := Lib.hid (allD_yes hx (numV_yes hv) hd.out)
        have HE := Lib.hid (show (acc ++ [v]).map i64 = acc.map i64 ++ [i64 v] by rw [List.map_append]; rfl)
        clear hx hv hd hb hkp
        go_wp2_with (first | (go_at_call 26; refine HC.out.mono ?_; rintro e w4 ⟨rfl, hb4⟩; have C4 := Lib.hid hb4; have B4 := Lib.hid (HB.out.trans (hb4.mono hwz)); have O4 := Lib.hid (hO.out.keep hb4); have z4 := B4.out.size; clear hb4) | (at_builtin; refine wp_app1 (by rfl) _ _ 22 2 (.int .i64 0) 8 (by rfl) Tryd.underlying22 info_i64 rfl w.heap.size C i cc (acc.map i64) (by rfl) (by exact O4.out.alloc _) w4.heap.size (i64 v) (by rfl) (by exact new_cell _ _ _ 0) rfl (by omega) (by omega) (by simp; omega) ?_; intro g' cap w3 own3 hb3 hk3 hg3 hz3; have O3 := Lib.hid own3; have K3 := Lib.hid (KpB.push (B' := some ⟨g', 0, none⟩) HK.out C4.out hk3 hz3 (hg3.elim (fun e => .inl e.symm) (fun e => .inr fun ad h => by injection h with h; subst h; exact Nat.le_of_eq e.symm))); have E3 := Lib.hid ((B4.out.alloc z4 _).trans hb3); clear own3 hb3 hk3 hg3 hz3))
        go_roundw
        case rel => exact ⟨i + 1, acc ++ [v], some ⟨g', 0, none⟩, cap, by go_num, rfl, by omega, HD.out, by unfold Hid; rw [HE.out]; exact O3.out, K3.out, E3.out⟩
        case measure => simp [intOf]; omega
    · obtain rfl : i = m := by omega
      have HG := Lib.hid (show (acc, true) = R by rw [← HR.out, allD_end (by rw [HM.out]; exact Nat.le_refl _) hd.out]; rfl)
      clear hb hkp
      go_wp2_with fail
      go_ret2
      rw [← HG.out]
      exact ⟨C, i, cc, rfl, hO.out, HB.out⟩
end Go.Proofs.YtdendllginlidaaDoor
