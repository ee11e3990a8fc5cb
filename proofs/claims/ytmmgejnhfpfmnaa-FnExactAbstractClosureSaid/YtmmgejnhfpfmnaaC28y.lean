/-
  Contracts of chapter 28 (automata): AbstractClosure of the program.
-/
import Derived.Test.YtmmgejnhfpfmnaaC28x
import Derived.Test.YtmmgejnhfpfmnaaC05r
import Derived.Test.YtmmgejnhfpfmnaaSortW
namespace Go.Proofs.Ytmmgejnhfpfmnaa
open Go.RowKit

theorem clGo_le {rs : List Rule3} {sy : Int} {xl xr : List Int} : ∀ (f k : Nat) (l o : List Nd), l.length ≤ 3000 → clGo rs sy xl xr f k l = some o → o.length ≤ 3000
  | 0, k, l, o, _, h => by rw [clGo] at h; cases h
  | f + 1, k, l, o, h0, h => by
    by_cases hk : k < l.length
    · have hx := List.getElem?_eq_getElem hk
      by_cases hb : 3000 < ((stepsN rs sy xl xr l[k]).foldl addN l).length
      · rw [clGo_full hx hb] at h; cases h
      · rw [clGo_on hx hb] at h
        exact clGo_le f (k + 1) _ o (by omega) h
    · rw [clGo_end (by omega)] at h
      injection h with h; subst h; exact h0
theorem clGo_pos {rs : List Rule3} {sy : Int} {xl xr : List Int} : ∀ (f k : Nat) (l o : List Nd), 0 < l.length → clGo rs sy xl xr f k l = some o → 0 < o.length
  | 0, k, l, o, _, h => by rw [clGo] at h; cases h
  | f + 1, k, l, o, h0, h => by
    by_cases hk : k < l.length
    · have hx := List.getElem?_eq_getElem hk
      by_cases hb : 3000 < ((stepsN rs sy xl xr l[k]).foldl addN l).length
      · rw [clGo_full hx hb] at h; cases h
      · rw [clGo_on hx hb] at h
        exact clGo_pos f (k + 1) _ o (by have := (fold_len (stepsN rs sy xl xr l[k]) l).1; omega) h
    · rw [clGo_end (by omega)] at h
      injection h with h; subst h; exact h0
set_option maxHeartbeats 4000000 in
set_option maxRecDepth 100000 in
theorem iAbstractClosure_c (sy st : Int) (A : Option Addr) (n cp : Nat) (rs : List Rule3) (sl : Int) (Al : Option Addr) (nl cl : Nat) (xl : List Int) (sr : Int) (Ar : Option Addr) (nr cr : Nat) (xr : List Int) (w : World)
    (h : RdS w [sgX enc3 3 A n rs]) (h' : RdI w Al nl xl) (h'' : RdI w Ar nr xr) (hn : n ≤ 1000000000) (hn' : nl ≤ 1000000000) (hn'' : nr ≤ 1000000000) :
    Calls Try.prog 23 #[.agg #[.int .i64 sy, .int .i64 st, .slice A n cp], .agg #[.int .i64 sl, .slice Al nl cl], .agg #[.int .i64 sr, .slice Ar nr cr]] w (IISOut (acR sy st rs sl xl sr xr) w) := by
  replace h : Rd3 w A n rs := h.head
  obtain ⟨w0, hw0⟩ : ∃ w0, ((w.alloc (.cells #[i64 sy, i64 st, .slice A n cp] 34)).alloc (.cells #[i64 sl, .slice Al nl cl] 49)).alloc (.cells #[i64 sr, .slice Ar nr cr] 49) = w0 := ⟨_, rfl⟩
  obtain ⟨b0, b1, b2⟩ := boxes3 w #[i64 sy, i64 st, .slice A n cp] #[i64 sl, .slice Al nl cl] #[i64 sr, .slice Ar nr cr] 34 49 49
  rw [hw0] at b0 b1 b2
  have B0 := Lib.hid (show Below w.heap.size w w0 by rw [← hw0]; exact ((below_size.alloc (Nat.le_refl _) _).alloc (by simp) _).alloc (by simp; omega) _)
  obtain ⟨w1, hw1⟩ : ∃ w1, w0.alloc (.cells #[i64 sy, i64 st, .slice A n cp, i64 sl, .slice Al nl cl, i64 sr, .slice Ar nr cr] 93) = w1 := ⟨_, rfl⟩
  have ex : Below w0.heap.size w0 w1 := by rw [← hw1]; exact below_size.alloc (Nat.le_refl _) _
  have X1 := Lib.hid (show Blk w1 w0.heap.size 93 #[i64 sy, i64 st, .slice A n cp, i64 sl, .slice Al nl cl, i64 sr, .slice Ar nr cr] by rw [← hw1]; exact Blk.new w0 _ _)
  have B1 := Lib.hid (below_chain B0.out B0.out.size ex)
  have HM := Lib.hid (show Rd3 w1 A n rs from Rd.below h B1.out); have HL := Lib.hid (h'.below B1.out); have HRr := Lib.hid (h''.below B1.out)
  obtain ⟨q, hq⟩ : ∃ q, readyB sy st rs sl xl sr xr = q := ⟨_, rfl⟩
  have HQ := Lib.hid hq
  obtain ⟨R, hR⟩ : ∃ R, acR sy st rs sl xl sr xr = R := ⟨_, rfl⟩
  have HR := Lib.hid (show R = (if q then acO st sy sr (sl * st * sy * sr).toNat (clR rs sy xl xr) else ([], 1)) by rw [← hR, acR, hq])
  rw [hR]
  have p0 := b0.cell 0; have p1 := b0.cell 1; have p2 := b0.cell 2; have q0 := b1.cell 0; have q1 := b1.cell 1; have r0 := b2.cell 0; have r1 := b2.cell 1
  simp at p0 p1 p2 q0 q1 r0 r1
  have x0 := X1.out.cell 0; have x1 := X1.out.cell 1; have x2 := X1.out.cell 2; have x3 := X1.out.cell 3; have x4 := X1.out.cell 4; have x5 := X1.out.cell 5; have x6 := X1.out.cell 6
  simp at x0 x1 x2 x3 x4 x5 x6
  clear h h' h'' hR b0 b1 b2 ex
  have HZ := B0.out.size
  go_enter Try.func23, Try.ntmps23
  go_wp2_with fail
  refine (autValid_c sy st A n cp rs sl Al nl cl xl sr Ar nr cr xr q _ (by exact HM.out) (by exact HL.out) (by exact HRr.out) hn hn' hn'' hq).mono ?_
  rintro e w2 ⟨rfl, hb⟩
  have X2 := Lib.hid (X1.out.keep hb)
  have B2 := Lib.hid (below_chain B1.out B1.out.size hb)
  have HM2 := Lib.hid (HM.out.below hb); have HL2 := Lib.hid (HL.out.below hb); have HR2 := Lib.hid (HRr.out.below hb)
  clear hb hq hw0 hw1 p0 p1 p2 q0 q1 r0 r1 x0 x1 x2 x3 x4 x5 x6
  cases q
  · go_wp2_with fail
    go_ret2
    rw [show R = ([], 1) from HR.out]
    exact IISOut.bad 1 B2.out
  have x0 := X2.out.cell 0; have x1 := X2.out.cell 1; have x2 := X2.out.cell 2; have x3 := X2.out.cell 3; have x4 := X2.out.cell 4; have x5 := X2.out.cell 5; have x6 := X2.out.cell 6
  simp at x0 x1 x2 x3 x4 x5 x6
  obtain ⟨hm, hdl, hdr⟩ := readyB_parts HQ.out
  obtain ⟨kz, hkz⟩ : ∃ kz : Nat, (kz : Int) = sl * st * sy * sr := by
    obtain ⟨_, _, f3⟩ := size_bd hdl.stt (machB_bd hm).2.1 (machB_bd hm).1 hdr.stt
    exact ⟨(sl * st * sy * sr).toNat, Int.toNat_of_nonneg (by omega)⟩
  obtain ⟨o, ho⟩ : ∃ o, clR rs sy xl xr = o := ⟨_, rfl⟩
  have HE := Lib.hid (show R = acO st sy sr kz o by rw [HR.out, ← hkz, Int.toNat_natCast, ho]; rfl)
  have HP := Lib.hid (fun l (h : o = some l) => show l.length ≤ 3000 ∧ 0 < l.length ∧ l.Nodup ∧ (l.map ndL).mergeSort leL = (sortN st sy sr l kz).map ndL from
    ⟨clGo_le (rs := rs) (sy := sy) (xl := xl) (xr := xr) 3001 0 [(0, 0, 0, 0)] l (by simp) (by rw [← h, ← ho]; rfl), clGo_pos (rs := rs) (sy := sy) (xl := xl) (xr := xr) 3001 0 [(0, 0, 0, 0)] l (by simp) (by rw [← h, ← ho]; rfl),
      clR_nodup (by rw [← h, ← ho]), sort_keys hkz (clR_ok hm hdl hdr (ho.trans h)) (clR_nodup (by rw [← h, ← ho]))⟩)
  have HC := Lib.hid (closure_c sy st A n cp rs sl Al nl cl xl sr Ar nr cr xr w2 HM2.out HL2.out HR2.out hm hdl hdr)
  rw [ho] at HC
  clear hm hdl hdr hkz ho
  unfold autV at HC
  go_wp2_with fail
  refine HC.out.mono ?_
  rintro e w3 ⟨A5, n5, c5, l, rfl, hl, hn5, hr5, hb⟩
  have B3 := Lib.hid (below_chain B2.out B2.out.size hb)
  have I3 := Lib.hid hr5; have HLL := Lib.hid hl; have HN5 := Lib.hid hn5
  clear hb hl hr5 hn5 HC x0 x1 x2 x3 x4 x5 x6
  cases o with
  | none =>
    go_wp2_with fail
    go_ret2
    rw [show R = ([], 5) from HE.out]
    exact IISOut.bad 5 B3.out
  | some l0 =>
    have HE0 := Lib.hid (show l = l0 from HLL.out)
    obtain ⟨hl3, hl1, hnd, hso⟩ := HP.out l0 rfl
    rw [← HE0.out] at hl3 hl1 hnd hso
    have HSO := Lib.hid hso; have HND := Lib.hid hnd
    have HRE := Lib.hid (show R = ((l.map ndL).mergeSort leL, 0) by rw [HE.out, hso, HE0.out]; rfl)
    have hn3 : n5 ≤ 3000 := by rw [HN5.out]; exact hl3
    have hn1 : 0 < n5 := by rw [HN5.out]; exact hl1
    clear hl3 hl1 hnd hso
    have hz3 := B3.out.size
    go_wp2_with fail
    go_loopw [12, 33] (fun ov iv wr => ∃ (k : Nat) (O : Option Addr) (oc : Nat) (its : List It), k ≤ n5 ∧ iv = .int .i64 k ∧ ov = .slice O k oc ∧ Hid (its.length = k) ∧ Hid (its.map It.xs = (l.take k).map ndL) ∧ Hid (∀ t ∈ its, t.n = 4) ∧
        Hid (OwnS wr w3.heap.size 25 1 O k oc (its.map hdI) (its.map bodyI)) ∧ Below w3.heap.size w3 wr) (fun _ iv _ => n5 - (intOf iv).toNat)
    case atStart => exact ⟨0, _, _, [], by omega, rfl, rfl, rfl, by simp [Hid], by simp [Hid], OwnS.nil (Own.litK (Nat.le_refl _)), below_size.alloc (Nat.le_refl _) _⟩
    case round =>
      obtain ⟨k, O, oc, its, hk, rfl, rfl, hql, hx, h4, hO, hb⟩ := hrel
      have HB := Lib.hid hb
      have hwz := hb.size
      by_cases hlt : k < n5
      · obtain ⟨⟨a, b, c, d⟩, hy⟩ : ∃ x : Nd, l[k]? = some x := ⟨_, List.getElem?_eq_getElem (by rw [← HN5.out]; exact hlt)⟩
        obtain ⟨ad, rfl, _, hc⟩ := (Rd.below I3.out hb).2 (by omega)
        obtain ⟨e0, e1, e2, e3⟩ := enc4_at hy
        have d0 : wr.cell? (ad.add (k * 4)) = some (.int .i64 a) := hc _ _ e0
        have d1' : wr.cell? ⟨(ad.add (k * 4)).block, (ad.add (k * 4)).off + 1, none⟩ = some (.int .i64 b) := (by rw [next_off ad (k * 4) 0]; exact hc _ _ e1)
        have d2' : wr.cell? ⟨(ad.add (k * 4)).block, (ad.add (k * 4)).off + 2, none⟩ = some (.int .i64 c) := (by rw [next_off ad (k * 4) 1]; exact hc _ _ e2)
        have d3' : wr.cell? ⟨(ad.add (k * 4)).block, (ad.add (k * 4)).off + 3, none⟩ = some (.int .i64 d) := (by rw [next_off ad (k * 4) 2]; exact hc _ _ e3)
        have HT := Lib.hid (show (l.take (k + 1)).map ndL = (l.take k).map ndL ++ [[a, b, c, d]] by rw [take_at hy, List.map_append]; rfl)
        obtain ⟨w4, hw4⟩ : ∃ w4, wr.alloc (.cells #[i64 a, i64 b, i64 c, i64 d] 99) = w4 := ⟨_, rfl⟩
        have E4 := Lib.hid (show Below wr.heap.size wr w4 by rw [← hw4]; exact below_size.alloc (Nat.le_refl _) _)
        have Y4 := Lib.hid (show Blk w4 wr.heap.size 99 #[i64 a, i64 b, i64 c, i64 d] by rw [← hw4]; exact Blk.new _ _ _)
        have R4 := Lib.hid (show RdI w4 (some ⟨wr.heap.size, 0, none⟩) 4 [a, b, c, d] from Y4.out.rd (by rfl) (by simp))
        clear hb hc e0 e1 e2 e3 hy
        go_wp2_with fail
        refine (cloneG_c _ 4 4 [a, b, c, d] _ (by exact R4.out) (by omega)).mono ?_
        rintro e w5 ⟨A6, c6, rfl, hw6, hb⟩
        have W6 := Lib.hid hw6
        have E5 := Lib.hid (below_chain E4.out E4.out.size hb)
        obtain ⟨w6, hw7⟩ : ∃ w6, w5.alloc (.cells #[.slice A6 4 c6] 25) = w6 := ⟨_, rfl⟩
        have C6 : w6.cell? ⟨w5.heap.size, 0, none⟩ = some (.slice A6 4 c6) := by rw [← hw7]; exact new_cell _ _ _ 0
        have E6' : Below w5.heap.size w5 w6 := by rw [← hw7]; exact below_size.alloc (Nat.le_refl _) _
        have E6 := Lib.hid (below_chain E5.out E5.out.size E6')
        have hz4 := E4.out.size
        have W7 := Lib.hid (show Wr w6 wr.heap.size w6.heap.size A6 4 ([a, b, c, d].map i64) from ((hw6.below E6').wider hz4 E6'.size))
        have O6 := Lib.hid (hO.out.keep E6.out)
        have hz6 : w3.heap.size ≤ w6.heap.size := by have := E6.out.size; omega
        clear hb hw6 E6' hw4 d0 d1' d2' d3'
        go_wp2_with (at_builtin; refine wp_app1 (by rfl) _ _ 27 25 (.slice none 0 0) 24 (by rfl) Try.underlying27 info_I64S rfl w3.heap.size O k oc (its.map hdI) (by rfl) (by exact O6.out.own) w5.heap.size (.slice A6 4 c6) (by rfl) C6 rfl (by omega) (by omega) hz6 ?_; intro g' cap w8 own3 hb3 hk3 hg3 hz8)
        have O8 := Lib.hid (hO.out.push (s := sgI A6 4 [a, b, c, d]) (by omega) E6.out W7.out own3 hk3 hg3 hz8)
        have B8 := Lib.hid (HB.out.trans ((E6.out.mono hwz).trans hb3))
        clear own3 hb3 hk3 hg3 C6 hw7
        go_wp2_with fail
        go_roundw
        case rel =>
          refine ⟨k + 1, some ⟨g', 0, none⟩, cap, its ++ [⟨A6, 4, c6, [a, b, c, d]⟩], by omega, by go_num, rfl, by unfold Hid; rw [List.length_append, hql.out]; rfl, by unfold Hid; rw [HT.out, List.map_append, hx.out]; rfl, ?_, O8.out.snocII, B8.out⟩
          intro t ht
          rcases List.mem_append.1 ht with ht | ht
          · exact h4.out t ht
          · rw [List.mem_singleton] at ht; subst ht; rfl
        case measure => simp [intOf]; omega
      · obtain rfl : k = n5 := by omega
        have HX := Lib.hid (show its.map It.xs = l.map ndL by rw [hx.out, List.take_of_length_le (by rw [HN5.out]; omega)])
        obtain ⟨ag, ea, hg⟩ : ∃ g, O = some ⟨g, 0, none⟩ ∧ w3.heap.size ≤ g := by
          obtain ⟨ad, e, _⟩ := hO.out.own.wrK.2 (by omega)
          have := hO.out.own.block e
          exact ⟨ad.block, by rw [e, ← this.2.2.1], this.1⟩
        subst ea
        have WS := hO.out.wrS
        rw [Nat.mul_one] at WS
        have h4' : ∀ t ∈ its, t.n ≤ 4 := fun t ht => Nat.le_of_eq (h4.out t ht)
        have HS := Lib.hid (sortLists_c w3.heap.size wr.heap.size ag k oc its wr WS hn1 (by omega) (fun t ht => by have := h4' t ht; omega) (by rw [HX.out]; exact List.pairwise_map.2 (HND.out.imp fun {a b} h e => h (ndL_inj e))))
        clear hb WS h4'
        go_wp2_with fail
        refine HS.out.mono ?_
        rintro e w9 ⟨rfl, its', hp, hms, hW9, hbel⟩
        have HW9 := Lib.hid hW9; have HP9 := Lib.hid hp; have HM9 := Lib.hid hms
        have B9 := Lib.hid (HB.out.trans (hbel w3.heap.size hg))
        have HZ9 := Lib.hid (hbel w3.heap.size hg).size
        clear hW9 hp hms hbel HS
        go_wp2_with fail
        go_ret2
        rw [HRE.out]
        have hlen : its'.length = k := by rw [HP9.out.length_eq, hql.out]
        have h49 : ∀ t ∈ its', t.n ≤ 4 := fun t ht => Nat.le_of_eq (h4.out t (HP9.out.mem_iff.1 ht))
        have hsum := sumN_by h49
        exact ⟨_, _, _, its', rfl, HW9.out.wider hz3 HZ9.out, ⟨by omega, h49, by omega, by rw [HM9.out, HX.out]⟩, below_chain B3.out B3.out.size B9.out⟩
end Go.Proofs.Ytmmgejnhfpfmnaa
