/-
  Contracts of chapter 18: AgreeComb of the reference.
-/
import Derived.Test.YtfgnhdmiglobhaaC18g
namespace Go.Proofs.Ytfgnhdmiglobhaa
open Go.RowKit

/-- append of a slice of numbers to a slice of the call's own -/
theorem wp_appNum {ops : Array Oper} {rest : List Oper} {o : Oper} {a : Act} {w : World} {Q : Exit → Act → World → Prop} (hgd : o.guard = none) (s x : Operand)
    (ho : o.op = .call { callee := .builtin .append, args := #[s, x], argTypes := #[56, 56] })
    (B : Nat) (A : Option Addr) (n c : Nat) (vs : List Value) (hs : a.eval s = .slice A n c) (hown : Own w B 2 1 A n c vs)
    (X : Option Addr) (m c' : Nat) (xs : List Int) (hx : a.eval x = .slice X m c') (hX : RdI w X m xs) (hlen : n + m ≤ 10000000000) (hB : B ≤ w.heap.size)
    (h : ∀ A' cap w', Own w' B 2 1 A' (n + m) cap (vs ++ xs.map i64) → Below B w w' → w.heap.size ≤ w'.heap.size →
      wpList Try.prog ops Q rest (a.put o.dst (.slice A' (n + m) cap)) w') : wpList Try.prog ops Q (o :: rest) a w := by
  by_cases h0 : 0 < m
  · obtain ⟨hl, hc⟩ := hX
    obtain ⟨ad, rfl, hab, hcs⟩ := hc h0
    refine wp_app hgd s x 56 2 (.int .i64 0) 1 8 ho Try.underlying56 info_i64 rfl (by omega) B A n c vs hs hown ad m c' (xs.map i64) hx h0 (by rw [hl, Nat.mul_one]) hcs (by intro u hu; obtain ⟨y, _, rfl⟩ := List.mem_map.1 hu; rfl) (by omega) (by omega) hB ?_
    intro g' cap w2 own2 hb2 hk2 hg2 hz2
    exact h _ cap w2 own2 hb2 hz2
  · obtain rfl : m = 0 := by omega
    have hws : xs = [] := List.length_eq_zero_iff.1 (by have := hX.1; simpa using this)
    subst hws
    refine wp_app0 hgd s x 56 2 (.int .i64 0) 1 8 ho Try.underlying56 info_i64 A n c hs hown.cap X c' hx ?_
    exact h A c w (by simpa using hown) ⟨rfl, rfl, rfl, Nat.le_refl _, fun _ _ => rfl⟩ (Nat.le_refl _)
/-- a Bool and a code -/
def AgOut (R : Bool × Int) (w : World) (e : Ending) (w' : World) : Prop := e = .returned (.tuple #[.bool R.1, .int .i64 R.2]) ∧ Below w.heap.size w w'
set_option maxHeartbeats 4000000 in
set_option maxRecDepth 100000 in
theorem sAgreeComb0_c (A : Option Addr) (n cp : Nat) (a : List (Int × Int)) (B : Option Addr) (m dp : Nat) (b : List (Int × Int)) (k bud : Int) (w : World) (ha : Rd2 w A n a) (hb : Rd2 w B m b) (hn : n ≤ 1000000000) (hm : m ≤ 1000000000) :
    Calls Try.prog 16 #[.slice A n cp, .slice B m dp, .int .i64 k, .int .i64 bud] w (AgOut (agR a b k bud) w) := by
  obtain ⟨R, hR⟩ : ∃ R, agR a b k bud = R := ⟨_, rfl⟩
  rw [hR]
  have HA := Lib.hid ha; have HB := Lib.hid hb
  cases hva : validC a
  · have HR := Lib.hid (show (false, (1 : Int)) = R by rw [← hR, agR, if_pos (by rw [hva]; rfl)])
    have VA := Lib.hid hva; clear hva hR ha hb
    go_enter Try.func16, Try.ntmps16
    go_wp2_with fail
    refine (l12Comb_c _ _ _ a false _ HA.out hn VA.out).mono ?_
    rintro e w1 ⟨rfl, hb1⟩
    go_wp2_with fail
    go_ret2
    rw [← HR.out]
    exact ⟨rfl, hb1⟩
  cases hvb : validC b
  · have HR := Lib.hid (show (false, (1 : Int)) = R by rw [← hR, agR, if_pos (by rw [hva, hvb]; rfl)])
    have VA := Lib.hid hva; have VB := Lib.hid hvb; clear hva hvb hR ha hb
    go_enter Try.func16, Try.ntmps16
    go_wp2_with fail
    refine (l12Comb_c _ _ _ a true _ HA.out hn VA.out).mono ?_
    rintro e w1 ⟨rfl, hb1⟩
    have HB1 := Lib.hid (HB.out.below hb1)
    go_wp2_with fail
    refine (l12Comb_c _ _ _ b false _ HB1.out hm VB.out).mono ?_
    rintro e w2 ⟨rfl, hb2⟩
    go_wp2_with fail
    go_ret2
    rw [← HR.out]
    exact ⟨rfl, below_chain hb1 hb1.size hb2⟩
  cases hib : inB bud 1 20000
  · have HR := Lib.hid (show (false, (2 : Int)) = R by rw [← hR, agR, if_neg (by rw [hva, hvb]; simp), if_pos (by rw [hib]; rfl)])
    have VA := Lib.hid hva; have VB := Lib.hid hvb; clear hva hvb hR ha hb
    go_enter Try.func16, Try.ntmps16
    go_wp2_with fail
    refine (l12Comb_c _ _ _ a true _ HA.out hn VA.out).mono ?_
    rintro e w1 ⟨rfl, hb1⟩
    have HB1 := Lib.hid (HB.out.below hb1)
    go_wp2_with fail
    refine (l12Comb_c _ _ _ b true _ HB1.out hm VB.out).mono ?_
    rintro e w2 ⟨rfl, hb2⟩
    go_wp2_with fail
    refine (l05BudgetC_b _ false (by assumption) _).mono ?_
    rintro e w' ⟨rfl, rfl⟩
    go_wp2_with fail
    go_ret2
    rw [← HR.out]
    exact ⟨rfl, below_chain hb1 hb1.size hb2⟩
  cases hik : inB k 0 8
  · have HR := Lib.hid (show (false, (2 : Int)) = R by rw [← hR, agR, if_neg (by rw [hva, hvb]; simp), if_pos (by rw [hib, hik]; rfl)])
    have VA := Lib.hid hva; have VB := Lib.hid hvb; clear hva hvb hR ha hb
    go_enter Try.func16, Try.ntmps16
    go_wp2_with fail
    refine (l12Comb_c _ _ _ a true _ HA.out hn VA.out).mono ?_
    rintro e w1 ⟨rfl, hb1⟩
    have HB1 := Lib.hid (HB.out.below hb1)
    go_wp2_with fail
    refine (l12Comb_c _ _ _ b true _ HB1.out hm VB.out).mono ?_
    rintro e w2 ⟨rfl, hb2⟩
    go_wp2_with fail
    refine (l05BudgetC_b _ true (by assumption) _).mono ?_
    rintro e w' ⟨rfl, rfl⟩
    go_wp2_with fail
    refine (l00In_b _ _ _ false (by assumption) _).mono ?_
    rintro e w' ⟨rfl, rfl⟩
    go_wp2_with fail
    go_ret2
    rw [← HR.out]
    exact ⟨rfl, below_chain hb1 hb1.size hb2⟩
  have hb1' := inB_t hib
  have hk1 := inB_t hik
  obtain ⟨bn, rfl⟩ : ∃ bn : Nat, bud = bn := ⟨bud.toNat, by omega⟩
  obtain ⟨kn, rfl⟩ : ∃ kn : Nat, k = kn := ⟨k.toNat, by omega⟩
  have hna := (validC_end hva).2.2; have hnb := (validC_end hvb).2.2
  rw [ha.len] at hna; rw [hb.len] at hnb
  obtain ⟨M, hM⟩ : ∃ M, agM a b = M := ⟨_, rfl⟩
  have hMb : 0 ≤ M ∧ M ≤ 400 := by rw [← hM]; exact agM_in (validC_all hva) (validC_all hvb)
  obtain ⟨NA, hNA⟩ : ∃ NA, namesC a = NA := ⟨_, rfl⟩
  obtain ⟨NB, hNB⟩ : ∃ NB, namesC b = NB := ⟨_, rfl⟩
  obtain ⟨na, hnal⟩ : ∃ na, NA.length = na := ⟨_, rfl⟩
  obtain ⟨nb, hnbl⟩ : ∃ nb, NB.length = nb := ⟨_, rfl⟩
  have hnabl : na ≤ 400 := by have := namesC_len a; rw [hNA, hnal, ha.len] at this; omega
  have hnbbl : nb ≤ 400 := by have := namesC_len b; rw [hNB, hnbl, hb.len] at this; omega
  have HTM := Lib.hid (show topI (NA ++ NB) = M by
    rw [← hM, agM]
    refine topI_congr fun y => ?_
    rw [List.mem_append, List.mem_append, ← hNA, ← hNB, namesC_mem, namesC_mem])
  have HIN := Lib.hid (show ∀ v ∈ NA ++ NB, 0 ≤ v ∧ v ≤ 399 from fun v hv => by
    rcases List.mem_append.1 hv with h | h
    · rw [← hNA, namesC_mem] at h; exact varsC_in (validC_all hva) h
    · rw [← hNB, namesC_mem] at h; exact varsC_in (validC_all hvb) h)
  obtain ⟨S1, hS1⟩ : ∃ S, stC a (upV M kn) bn = S := ⟨_, rfl⟩
  obtain ⟨S2, hS2⟩ : ∃ S, stC b (upV M kn) bn = S := ⟨_, rfl⟩
  have HR := Lib.hid (show agX S1 S2 = R by
    rw [← hR, agR, if_neg (by rw [hva, hvb]; simp), if_neg (by rw [hib, hik]; simp), hM, show ((kn : Int)).toNat = kn by omega, show ((bn : Int)).toNat = bn by omega, hS1, hS2])
  have HS1 := Lib.hid hS1; have HS2 := Lib.hid hS2; have HNA := Lib.hid hNA; have HNB := Lib.hid hNB; have LA := Lib.hid hnal; have LB := Lib.hid hnbl
  have VA := Lib.hid hva; have VB := Lib.hid hvb
  clear hva hvb hR ha hb hM hNA hNB hnal hnbl hS1 hS2
  go_enter Try.func16, Try.ntmps16
  go_wp2_with fail
  refine (l12Comb_c _ _ _ a true _ HA.out hn VA.out).mono ?_
  rintro e w1 ⟨rfl, hb1⟩
  have HB1 := Lib.hid (HB.out.below hb1); have HA1 := Lib.hid (HA.out.below hb1); have E1 := Lib.hid hb1
  clear hb1
  go_wp2_with fail
  refine (l12Comb_c _ _ _ b true _ HB1.out hm VB.out).mono ?_
  rintro e w2 ⟨rfl, hb2⟩
  have HB2 := Lib.hid (HB1.out.below hb2); have HA2 := Lib.hid (HA1.out.below hb2); have E2 := Lib.hid (below_chain E1.out E1.out.size hb2)
  clear hb2 HB1 HA1
  go_wp2_with fail
  refine (l05BudgetC_b _ true (by assumption) _).mono ?_
  rintro e w' ⟨rfl, rfl⟩
  go_wp2_with fail
  refine (l00In_b _ _ _ true (by assumption) _).mono ?_
  rintro e w' ⟨rfl, rfl⟩
  go_wp2_with fail
  refine (l18Names_c _ _ _ a NA _ HA2.out (by omega) HNA.out).mono ?_
  rintro e w3 ⟨A3, c3, he3, ho3, hb3⟩
  rw [LA.out] at he3 ho3
  subst he3
  have O3 := Lib.hid ho3; have F3 := Lib.hid hb3; have E3 := Lib.hid (below_chain E2.out E2.out.size hb3)
  have HB3 := Lib.hid (HB2.out.below hb3); have HA3 := Lib.hid (HA2.out.below hb3)
  clear ho3 hb3 HA2 HB2
  go_wp2_with fail
  refine (l18Names_c _ _ _ b NB _ HB3.out (by omega) HNB.out).mono ?_
  rintro e w4 ⟨A4, c4, he4, ho4, hb4⟩
  rw [LB.out] at he4 ho4
  subst he4
  have O4 := Lib.hid (O3.out.keep hb4); have R4 := Lib.hid ho4.wr.rdI; have F4 := Lib.hid (below_chain F3.out F3.out.size hb4); have FB34 := Lib.hid hb4
  have hz4 := F4.out.size
  clear ho4 hb4 O3
  have E4 := Lib.hid (below_chain E2.out E2.out.size F4.out)
  have HB4 := Lib.hid (HB3.out.below (show Below w3.heap.size w3 w4 from FB34.out)); have HA4 := Lib.hid (HA3.out.below (show Below w3.heap.size w3 w4 from FB34.out))
  go_wp2_with (at_builtin; refine wp_appNum (by rfl) _ _ (by rfl) w2.heap.size _ _ _ _ (by rfl) (by exact O4.out) _ _ _ NB (by rfl) (by exact R4.out) (by omega) (by omega) ?_; intro A5 c5 w5 own5 hb5 hz5)
  have O5 := Lib.hid (show RdI w5 A5 (na + nb) (NA ++ NB) by have := own5.wr.rd; rw [← List.map_append] at this; exact this)
  have F5 := Lib.hid (F4.out.trans hb5); have E5 := Lib.hid (below_chain E2.out E2.out.size F5.out)
  have HA5 := Lib.hid (HA.out.below E5.out); have HB5 := Lib.hid (HB.out.below E5.out)
  clear own5 hb5 hz5 O4 R4 HA4 HB4 HA3 HB3 hz4
  go_wp2_with fail
  go_loopw [11, 12] (fun mv iv wr => ∃ (j : Nat) (mm : Int), j ≤ na + nb ∧ 0 ≤ mm ∧ mm ≤ 400 ∧ iv = .int .i64 j ∧ mv = .int .i64 mm ∧ Hid (((NA ++ NB).drop j).foldl (fun m v => max m (v + 1)) mm = M) ∧ wr = w5) (fun _ iv _ => na + nb - (intOf iv).toNat)
  case atStart => exact ⟨0, 0, by omega, by omega, by omega, rfl, rfl, HTM.out, by first | rfl | trivial⟩
  case round =>
    obtain ⟨j, mm, hj, hm0, hm4, rfl, rfl, hr, rfl⟩ := hrel
    by_cases hlt : j < na + nb
    · obtain ⟨ad, v, rfl, hab, hv, hc⟩ := O5.out.at_ hlt
      have hvb := HIN.out v (List.mem_of_getElem? hv)
      have HG := Lib.hid (show ((NA ++ NB).drop (j + 1)).foldl (fun m v => max m (v + 1)) (max mm (v + 1)) = M by rw [← hr.out, drop_at hv, List.foldl_cons])
      clear hv hr
      go_wp2_with (go_at_call 39; refine (l00Max_c _ _ _).mono ?_; rintro e w' ⟨rfl, rfl⟩)
      go_roundw
      case rel => exact ⟨j + 1, max mm (v + 1), by omega, by omega, by omega, by go_num, rfl, HG.out, by first | rfl | trivial⟩
      case measure => simp [intOf]; omega
    · have HG := Lib.hid (show mm = M by rw [← hr.out, List.drop_eq_nil_of_le (by rw [O5.out.len]; omega)]; rfl)
      obtain rfl : mm = M := HG.out
      clear hr HG HTM HIN
      go_wp2_with fail
      go_loopw [13, 14] (fun gv iv wr => ∃ (j cc : Nat) (G : Option Addr) (ps : List (Nat × Int)), j ≤ kn ∧ iv = .int .i64 j ∧ gv = .slice G j cc ∧ Hid (ArgsAt wr w.heap.size G j cc ps) ∧ Hid (ps.map (·.2) = upV mm j) ∧ Below w.heap.size w wr) (fun _ iv _ => kn - (intOf iv).toNat)
      case atStart => exact ⟨0, 0, some ⟨wr.heap.size, 0, none⟩, [], by omega, rfl, rfl, ⟨Own.lit E5.out.size, fun p hp => by cases hp⟩, rfl, E5.out.alloc E5.out.size _⟩
      case round =>
        clear HA5 HB5
        obtain ⟨wo, rfl⟩ : ∃ wo : World, wo = wr := ⟨_, rfl⟩
        obtain ⟨j, cc, G, ps, hj, rfl, rfl, hG, hps, hb⟩ := hrel
        have HBw := Lib.hid hb
        have hwz := hb.size
        by_cases hlt2 : j < kn
        · have v1 : IntKind.i64.wrap (mm + (j : Int)) = mm + (j : Int) := IntWalk.i64_in _ (by omega)
          have B4 := Lib.hid (show Below w.heap.size w (wo.alloc (.cells #[.int .i64 4, .int .i64 (mm + (j : Int))] 50)) from HBw.out.alloc hwz _)
          go_wp2_with (first
            | (go_at_call 40; refine (l18Name_c _ _).mono ?_; rintro e w' ⟨rfl, rfl⟩)
            | (at_builtin; refine wp_app1 (by rfl) _ _ 60 24 (.slice none 0 0) 24 (by rfl) Try.underlying60 info_sComb rfl w.heap.size G j cc _ (by rfl) (by exact (hG.out.1.alloc _).alloc _) (wo.heap.size + 1) (.slice (some ⟨wo.heap.size, 0, none⟩) 1 1) (by rfl) (by have := new_cell (wo.alloc (.cells #[.int .i64 4, .int .i64 (mm + (j : Int))] 50)) #[.slice (some ⟨wo.heap.size, 0, none⟩) 1 1] 24 0; rw [World.size_alloc] at this; exact this) rfl (by omega) (by omega) (by simp; omega) ?_; intro g' cap w7 own7 hb7 hk7 hg7 hz7))
          have P7 := Lib.hid (hG.out.push rfl own7 hk7)
          have E7 := Lib.hid ((B4.out.alloc (by simp; omega) _).trans hb7)
          have HP7 := Lib.hid (show (ps ++ [(wo.heap.size, mm + (j : Int))]).map (·.2) = upV mm (j + 1) by rw [List.map_append, hps.out, upV_succ]; rfl)
          clear own7 hb7 hk7 hg7 hz7 v1
          go_wp2_with fail
          go_roundw
          case rel => exact ⟨j + 1, cap, some ⟨g', 0, none⟩, _, by omega, by go_num, rfl, P7.out, HP7.out, E7.out⟩
          case measure => simp [intOf]; omega
        · obtain rfl : j = kn := by omega
          have HAx := Lib.hid (HA.out.below HBw.out)
          go_wp2_with fail
          refine (l18Settled_c _ _ _ a G j cc ps _ bn S1 _ HAx.out hG.out.rdV hps.out hna (by omega) (by omega) HS1.out).mono ?_
          rintro e w8 ⟨hb8, h8⟩
          have E8 := Lib.hid (below_chain HBw.out hwz hb8); have G8 := Lib.hid (hG.out.below hb8)
          have HB8 := Lib.hid (HB.out.below E8.out)
          have Q8 := Lib.hid h8
          clear hb8 h8 HAx
          cases S1 with
          | none =>
            obtain ⟨Ax, Nx, cx, rfl⟩ := Q8.out
            have HG' := Lib.hid (show (false, (5 : Int)) = R from HR.out)
            go_wp2_with fail
            refine (l18Settled_c _ _ _ b G j cc ps _ bn S2 _ HB8.out G8.out.rdV hps.out hnb (by omega) (by omega) HS2.out).mono ?_
            rintro e w9 ⟨hb9, h9⟩
            have E9 := Lib.hid (below_chain E8.out E8.out.size hb9)
            obtain ⟨Ay, Ny, cy, q, rfl⟩ : ∃ A N cap q, e = .returned (.tuple #[.slice A N cap, .bool q]) := by
              cases S2 with
              | none => obtain ⟨_, _, _, e⟩ := h9; exact ⟨_, _, _, _, e⟩
              | some t => obtain ⟨_, _, _, e, _⟩ := h9; exact ⟨_, _, _, _, e⟩
            clear hb9 h9
            go_wp2_with fail
            go_ret2
            rw [← HG'.out]
            exact ⟨rfl, E9.out⟩
          | some x =>
            obtain ⟨Ax, Nx, cx, rfl, hrx, hNx⟩ := Q8.out
            have RX := Lib.hid hrx
            clear hrx
            go_wp2_with fail
            refine (l18Settled_c _ _ _ b G j cc ps _ bn S2 _ HB8.out G8.out.rdV hps.out hnb (by omega) (by omega) HS2.out).mono ?_
            rintro e w9 ⟨hb9, h9⟩
            have E9 := Lib.hid (below_chain E8.out E8.out.size hb9)
            have RX9 := Lib.hid (RX.out.below hb9)
            have Q9 := Lib.hid h9
            clear hb9 h9
            cases S2 with
            | none =>
              obtain ⟨Ay, Ny, cy, rfl⟩ := Q9.out
              have HG' := Lib.hid (show (false, (5 : Int)) = R from HR.out)
              go_wp2_with fail
              go_ret2
              rw [← HG'.out]
              exact ⟨rfl, E9.out⟩
            | some y =>
              obtain ⟨Ay, Ny, cy, rfl, hry, hNy⟩ := Q9.out
              have RY := Lib.hid hry
              have HG' := Lib.hid (show (decide (x = y), (0 : Int)) = R from HR.out)
              clear hry Q9 Q8 RX HB8 G8 hG hps HBw
              by_cases hnm : Nx = Ny
              case neg =>
                have g1 : ((Nx : Int) != (Ny : Int)) = true := by simp; omega
                have HF := Lib.hid (show (false, (0 : Int)) = R by
                  rw [← HG'.out, decide_eq_false]
                  intro e; apply hnm; rw [← RX9.out.len, ← RY.out.len, e])
                go_wp2_with fail
                go_ret2
                rw [← HF.out]
                exact ⟨rfl, E9.out⟩
              subst hnm
              go_wp2_with fail
              go_loopw [19] (fun iv wr => ∃ k : Nat, k ≤ Nx ∧ iv = .int .i64 k ∧ Hid (decide (x.drop k = y.drop k) = decide (x = y)) ∧ ∃ i, wr = w9.drewN i) (fun iv _ => Nx - (intOf iv).toNat)
              case atStart => exact ⟨0, by omega, rfl, rfl, 0, rfl⟩
              case round =>
                obtain ⟨k, hk, rfl, hr, i, rfl⟩ := hrel
                by_cases hlt : k < Nx
                · obtain ⟨ad, p, rfl, _, hx, hc0, hc1⟩ := RX9.out.at_ hlt
                  obtain ⟨ad', q, rfl, _, hy, hd0, hd1⟩ := RY.out.at_ hlt
                  have hc0 : (w9.drewN i).cell? (ad.add (k * 2)) = some (i64 p.1) := hc0
                  have hc1 : (w9.drewN i).cell? ⟨(ad.add (k * 2)).block, (ad.add (k * 2)).off + 1, none⟩ = some (i64 p.2) := hc1
                  have hd0 : (w9.drewN i).cell? (ad'.add (k * 2)) = some (i64 q.1) := hd0
                  have hd1 : (w9.drewN i).cell? ⟨(ad'.add (k * 2)).block, (ad'.add (k * 2)).off + 1, none⟩ = some (i64 q.2) := hd1
                  obtain ⟨p0, p1⟩ := p
                  obtain ⟨q0, q1⟩ := q
                  have HS := Lib.hid (show decide ((p0, p1) :: x.drop (k + 1) = (q0, q1) :: y.drop (k + 1)) = decide (x = y) by rw [← hr.out, drop_at hx, drop_at hy])
                  simp only at hc0 hc1 hd0 hd1
                  clear hx hy hr
                  rcases pair_cases p0 p1 q0 q1 with ⟨_, rfl, rfl⟩ | ⟨hne, hne2⟩
                  · have HF := Lib.hid (show decide (x.drop (k + 1) = y.drop (k + 1)) = decide (x = y) by rw [← HS.out]; simp)
                    go_wp2_with fail
                    go_quiet (fail)
                    go_wp2_with fail
                    go_roundw
                    case rel => exact ⟨k + 1, by omega, by go_num, HF.out, _, rfl⟩
                    case measure => simp [intOf]; omega
                  · have HF := Lib.hid (show (false, (0 : Int)) = R by
                      rw [← HG'.out, ← HS.out, decide_eq_false]
                      intro e; injection e with e _; exact hne e)
                    rcases hne2 with g1 | ⟨rfl, g1⟩
                    · go_wp2_with fail
                      go_quiet (fail)
                      go_wp2_with fail
                      go_ret2
                      rw [← HF.out]
                      exact ⟨rfl, below_drewN (below_drewN E9.out _) _⟩
                    · go_wp2_with fail
                      go_quiet (fail)
                      go_wp2_with fail
                      go_ret2
                      rw [← HF.out]
                      exact ⟨rfl, below_drewN (below_drewN E9.out _) _⟩
                · have HF := Lib.hid (show (true, (0 : Int)) = R by rw [← HG'.out, ← hr.out, List.drop_eq_nil_of_le (by rw [RX9.out.len]; omega), List.drop_eq_nil_of_le (by rw [RY.out.len]; omega)]; rfl)
                  go_wp2_with fail
                  go_ret2
                  rw [← HF.out]
                  exact ⟨rfl, below_drewN E9.out _⟩
end Go.Proofs.Ytfgnhdmiglobhaa
