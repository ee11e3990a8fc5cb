/-
  Texts of while programs: the reference (l22Show, l22Text, WhileText).
-/
import Derived.Test.YtkchgjegdmcnaaaDoorPWt
import Derived.Test.YtkchgjegdmcnaaaDoorCTc
import Derived.Test.YtkchgjegdmcnaaaDoorCWb
namespace Go.Proofs.YtkchgjegdmcnaaaDoor
open Go.RowKit

theorem putT_size (x : Int × Int) (st : List (List UInt8)) : (putT x st).length ≤ st.length + 1 := by
  unfold putT
  repeat' split
  all_goals simp; try omega
theorem stT_size : ∀ l : List (Int × Int), (stT l).length ≤ l.length
  | [] => by simp [stT]
  | x :: l => by have h1 := stT_size l; have h2 := putT_size x (stT l); rw [stT, List.length_cons]; omega
/-- the stack in memory: its top is the last -/
def stV (L : List (List UInt8)) : List Value := L.reverse.map fun l => .string (bs l)
theorem stV_len (L : List (List UInt8)) : (stV L).length = L.length := by simp [stV]
theorem stV_cons (a : List UInt8) (L : List (List UInt8)) : stV (a :: L) = stV L ++ [.string (bs a)] := by simp [stV]
theorem stV_take (a : List UInt8) (L : List (List UInt8)) : (stV (a :: L)).take L.length = stV L := by rw [stV_cons, List.take_left' (stV_len L)]
theorem stV_take2 (a b : List UInt8) (L : List (List UInt8)) : (stV (a :: b :: L)).take L.length = stV L := by rw [stV_cons, stV_cons, List.append_assoc, List.take_left' (stV_len L)]
theorem stV_at0 (a : List UInt8) (L : List (List UInt8)) : (stV (a :: L))[L.length]? = some (.string (bs a)) := by
  rw [stV_cons, List.getElem?_append_right (by rw [stV_len]; exact Nat.le_refl _), stV_len, Nat.sub_self]; rfl
theorem stV_at1 (a b : List UInt8) (L : List (List UInt8)) : (stV (a :: b :: L))[L.length]? = some (.string (bs b)) := by
  rw [stV_cons, List.getElem?_append_left (by rw [stV_len]; simp), stV_at0]
theorem addrZv (ad : Addr) : ad.add 0 = ad := by unfold Addr.add; simp
theorem addrSv (ad : Addr) (k : Nat) : ad.add (k + 1) = ⟨ad.block, ad.off + (k + 1), none⟩ := by unfold Addr.add; simp
theorem len_cons1 {α : Type} : ∀ {L : List α}, 1 ≤ L.length → ∃ a L', L = a :: L'
  | a :: L, _ => ⟨a, L, rfl⟩
  | [], h => by simp at h
theorem len_cons2 {α : Type} : ∀ {L : List α}, 2 ≤ L.length → ∃ a b L', L = a :: b :: L'
  | a :: b :: L, _ => ⟨a, b, L, rfl⟩
  | [], h => by simp at h
  | [_], h => by simp at h
theorem info_str' : (Tryd.prog.info? 9).map (fun i => (i.zero, i.size, i.bytes)) = some (some (.string ⟨#[]⟩), 1, 16) := by kernel_rfl
theorem own_cell {w : World} {B : Nat} {e : TypeId} {A : Option Addr} {n c : Nat} {vs : List Value} {k : Nat} {v : Value} (h : Own w B e 1 A n c vs) (hk : vs[k]? = some v) : ∃ ad, A = some ad ∧ w.cell? (ad.add k) = some v := by
  have hl := h.len
  have hkn : k < n := by have := (List.getElem?_eq_some_iff.1 hk).1; omega
  obtain ⟨ad, u, e1, _, _, _, hu, hc, _⟩ := h.wr.at_ hkn
  rw [hk] at hu; injection hu with hu; subst hu
  exact ⟨ad, e1, hc⟩
set_option maxHeartbeats 4000000 in
set_option maxRecDepth 100000 in
theorem l22Show_c (A : Option Addr) (n cp : Nat) (e : List (Int × Int)) (w : World) (h : Rd2 w A n e) (hv : validE e = true) :
    Calls Tryd.prog 34 #[.slice A n cp] w fun en w' => en = .returned (.string (bs (exT 40 e))) ∧ Below w.heap.size w w' := by
  obtain ⟨v1, v2, v3, v4⟩ := validE_end hv
  have hl := h.len
  have HL := Lib.hid hl
  have hn : n ≤ 40 := by omega
  have hn1 : 1 ≤ n := by omega
  have HE := Lib.hid (show isE e from v1); have HO := Lib.hid v4; have HR := Lib.hid (stT_one hv)
  have H := Lib.hid h
  clear h hv v1 v2 v3 v4 hl
  have v0 : IntKind.i64.wrap ((n : Int) - 1) = (n : Int) - 1 := IntWalk.i64_in _ (by omega)
  go_enter Tryd.func34, Tryd.ntmps34
  go_wp2_with fail
  go_loopw [3, 4] (fun sv iv wr => ∃ (k m cc : Nat) (C : Option Addr) (L : List (List UInt8)), k ≤ n ∧ m ≤ n ∧ iv = .int .i64 ((k : Int) - 1) ∧ sv = .slice C m cc ∧ Hid (L = stT (e.drop k)) ∧ Hid (L.length = m) ∧ Hid (Own wr w.heap.size 9 1 C m cc (stV L)) ∧ Below w.heap.size w wr) (fun _ iv _ => (intOf iv + 1).toNat)
  case atStart => exact ⟨n, 0, 0, some ⟨w.heap.size, 0, none⟩, [], by omega, by omega, rfl, rfl, by unfold Hid; rw [List.drop_eq_nil_of_le (by rw [HL.out]; exact Nat.le_refl _)]; rfl, rfl, Own.lit (Nat.le_refl _), below_size.alloc (Nat.le_refl _) _⟩
  case round =>
    clear v0
    obtain ⟨k, m, cc, C, L, hk, hm, rfl, rfl, hL, hLm, hO, hb⟩ := hrel
    have HB := Lib.hid hb
    have hz := hb.size
    by_cases hlt : 0 < k
    · obtain ⟨k', rfl⟩ : ∃ k', k = k' + 1 := ⟨k - 1, by omega⟩
      rw [show (((k' + 1 : Nat) : Int) - 1) = (k' : Int) by omega]
      obtain ⟨ad, x, rfl, hab, hx, hc0, hc1⟩ := (H.out.below hb).at_ (k := k') (by omega)
      have hxo : okE x = true := List.all_eq_true.1 HO.out x (List.mem_of_getElem? hx)
      have HK := Lib.hid (okE_kind hxo)
      have hmn := stT_many HE.out HO.out hx
      have HS := Lib.hid (show stT (e.drop k') = putT x (stT (e.drop (k' + 1))) by rw [drop_at hx, stT])
      have hln := stT_lens (all_drop HO.out (k' + 1))
      have hld : (e.drop (k' + 1)).length ≤ 40 := by rw [List.length_drop, HL.out]; omega
      rw [← hL.out] at hmn hln HS
      have hln : Lib.lens L ≤ 120 := by omega
      have hkd : k' + 1 ≤ n := hk
      have v5 : IntKind.i64.wrap ((k' : Int) - 1) = (k' : Int) - 1 := IntWalk.i64_in _ (by omega)
      have hm1 : m + 1 ≤ n := by have h1 := stT_size (e.drop (k' + 1)); rw [← hL.out, hLm.out, List.length_drop, HL.out] at h1; omega
      obtain ⟨kd, vr⟩ := x
      simp only at hmn hc0 hc1
      have h5 := HK.out
      simp only at h5
      clear hb hx hxo hld hL
      by_cases h0 : kd = 0
      · subst h0
        have HN := Lib.hid (show [110] :: L = stT (e.drop k') from by rw [HS.out]; rfl)
        clear hc1 hmn
        go_wp2_with (at_builtin; refine wp_app1 (by rfl) _ _ 53 9 (.string ⟨#[]⟩) 16 (by rfl) Tryd.underlying53 info_str' rfl w.heap.size (C) (m) cc (stV (L)) (by rfl) (by exact hO.out.alloc _) wr.heap.size (.string (bs [110])) (by rfl) (by exact new_cell _ _ _ 0) rfl (by omega) (by omega) (by simp; omega) ?_; intro g' cap w2 own2 hb2 hk2 hg2 hz2)
        have O2 := Lib.hid (show Own w2 w.heap.size 9 1 (some ⟨g', 0, none⟩) (m + 1) cap (stV (([110]) :: L)) by rw [stV_cons]; first | exact own2 | (rw [← HX.out]; exact own2)); have HB2 := Lib.hid hb2
        clear own2 hb2 hk2 hg2 hz2
        go_wp2_with fail
        go_roundw
        case rel => exact ⟨k', m + 1, cap, some ⟨g', 0, none⟩, ([110]) :: L, by omega, by omega, rfl, rfl, HN.out, by unfold Hid; rw [List.length_cons, hLm.out], O2.out, (HB.out.alloc HB.out.size _).trans HB2.out⟩
        case measure => simp [intOf]
      by_cases h1 : kd = 1
      · subst h1
        have HN := Lib.hid (show Lib.itoa vr :: L = stT (e.drop k') from by rw [HS.out]; rfl)
        clear hmn
        go_wp2_with (first
          | (go_at_call 33; refine (l01Dec_c vr _ (by omega) (by omega)).mono ?_; rintro e w1 ⟨rfl, hb1⟩; have B1 := Lib.hid (HB.out.trans (hb1.mono HB.out.size)); have O1 := Lib.hid (hO.out.keep hb1); have z1 := B1.out.size; clear hb1)
          | (at_builtin; refine wp_app1 (by rfl) _ _ 53 9 (.string ⟨#[]⟩) 16 (by rfl) Tryd.underlying53 info_str' rfl w.heap.size (C) (m) cc (stV (L)) (by rfl) (by exact O1.out.alloc _) w1.heap.size (.string (bs (Lib.itoa vr))) (by rfl) (by exact new_cell _ _ _ 0) rfl (by omega) (by omega) (by simp; omega) ?_; intro g' cap w2 own2 hb2 hk2 hg2 hz2))
        have O2 := Lib.hid (show Own w2 w.heap.size 9 1 (some ⟨g', 0, none⟩) (m + 1) cap (stV ((Lib.itoa vr) :: L)) by rw [stV_cons]; first | exact own2 | (rw [← HX.out]; exact own2)); have HB2 := Lib.hid hb2
        clear own2 hb2 hk2 hg2 hz2
        go_wp2_with fail
        go_roundw
        case rel => exact ⟨k', m + 1, cap, some ⟨g', 0, none⟩, (Lib.itoa vr) :: L, by omega, by omega, rfl, rfl, HN.out, by unfold Hid; rw [List.length_cons, hLm.out], O2.out, (B1.out.alloc B1.out.size _).trans HB2.out⟩
        case measure => simp [intOf]
      by_cases h3 : kd = 3
      · subst h3
        obtain ⟨a, L', rfl⟩ := len_cons1 (show 1 ≤ L.length from hmn)
        have hlm := hLm.out
        rw [List.length_cons] at hlm
        obtain ⟨m', rfl⟩ : ∃ m', m = m' + 1 := ⟨m - 1, by omega⟩
        have HLL := Lib.hid (show L'.length = m' by omega)
        rw [lens_cons] at hln
        have la : (bs a).size ≤ 120 := by rw [bs_size]; omega
        obtain ⟨aC, hC, hca⟩ := own_cell hO.out (show (stV (a :: L'))[m']? = some (.string (bs a)) by have := stV_at0 a L'; rw [HLL.out] at this; exact this)
        subst hC
        have OC := Lib.hid (show Own wr w.heap.size 9 1 (some aC) m' cc (stV L') by
          have h9 := hO.out.cut (m := m') (by omega) (by simp)
          rw [Nat.mul_one, ← HLL.out, stV_take, HLL.out] at h9
          exact h9)
        have v6 : IntKind.i64.wrap (((m' + 1 : Nat) : Int) - 1) = (m' : Int) := by rw [IntWalk.i64_in _ (by omega)]; omega
        have HX := Lib.hid (show (⟨#[104]⟩ : ByteArray) ++ bs a = bs (104 :: a) by rw [show (⟨#[104]⟩ : ByteArray) = bs [104] from rfl, bs_add]; rfl)
        have HN := Lib.hid (show (104 :: a) :: L' = stT (e.drop k') from by rw [HS.out]; rfl)
        clear hlm hmn hc1 HS
        have hcc := hO.out.capN
        go_wp2_with (at_builtin; refine wp_app1 (by rfl) _ _ 53 9 (.string ⟨#[]⟩) 16 (by rfl) Tryd.underlying53 info_str' rfl w.heap.size (some aC) (m') cc (stV (L')) (by rfl) (by exact OC.out.alloc _) wr.heap.size (.string (⟨#[104]⟩ ++ bs a)) (by rfl) (by exact new_cell _ _ _ 0) rfl (by omega) (by omega) (by simp; omega) ?_; intro g' cap w2 own2 hb2 hk2 hg2 hz2)
        have O2 := Lib.hid (show Own w2 w.heap.size 9 1 (some ⟨g', 0, none⟩) (m' + 1) cap (stV ((104 :: a) :: L')) by rw [stV_cons]; first | exact own2 | (rw [← HX.out]; exact own2)); have HB2 := Lib.hid hb2
        clear own2 hb2 hk2 hg2 hz2
        go_wp2_with fail
        go_roundw
        case rel => exact ⟨k', m' + 1, cap, some ⟨g', 0, none⟩, (104 :: a) :: L', by omega, by omega, rfl, rfl, HN.out, by unfold Hid; rw [List.length_cons, HLL.out], O2.out, (HB.out.alloc HB.out.size _).trans HB2.out⟩
        case measure => simp [intOf]
      by_cases h4 : kd = 4
      · subst h4
        obtain ⟨a, L', rfl⟩ := len_cons1 (show 1 ≤ L.length from hmn)
        have hlm := hLm.out
        rw [List.length_cons] at hlm
        obtain ⟨m', rfl⟩ : ∃ m', m = m' + 1 := ⟨m - 1, by omega⟩
        have HLL := Lib.hid (show L'.length = m' by omega)
        rw [lens_cons] at hln
        have la : (bs a).size ≤ 120 := by rw [bs_size]; omega
        obtain ⟨aC, hC, hca⟩ := own_cell hO.out (show (stV (a :: L'))[m']? = some (.string (bs a)) by have := stV_at0 a L'; rw [HLL.out] at this; exact this)
        subst hC
        have OC := Lib.hid (show Own wr w.heap.size 9 1 (some aC) m' cc (stV L') by
          have h9 := hO.out.cut (m := m') (by omega) (by simp)
          rw [Nat.mul_one, ← HLL.out, stV_take, HLL.out] at h9
          exact h9)
        have v6 : IntKind.i64.wrap (((m' + 1 : Nat) : Int) - 1) = (m' : Int) := by rw [IntWalk.i64_in _ (by omega)]; omega
        have HX := Lib.hid (show (⟨#[116]⟩ : ByteArray) ++ bs a = bs (116 :: a) by rw [show (⟨#[116]⟩ : ByteArray) = bs [116] from rfl, bs_add]; rfl)
        have HN := Lib.hid (show (116 :: a) :: L' = stT (e.drop k') from by rw [HS.out]; rfl)
        clear hlm hmn hc1 HS
        have hcc := hO.out.capN
        go_wp2_with (at_builtin; refine wp_app1 (by rfl) _ _ 53 9 (.string ⟨#[]⟩) 16 (by rfl) Tryd.underlying53 info_str' rfl w.heap.size (some aC) (m') cc (stV (L')) (by rfl) (by exact OC.out.alloc _) wr.heap.size (.string (⟨#[116]⟩ ++ bs a)) (by rfl) (by exact new_cell _ _ _ 0) rfl (by omega) (by omega) (by simp; omega) ?_; intro g' cap w2 own2 hb2 hk2 hg2 hz2)
        have O2 := Lib.hid (show Own w2 w.heap.size 9 1 (some ⟨g', 0, none⟩) (m' + 1) cap (stV ((116 :: a) :: L')) by rw [stV_cons]; first | exact own2 | (rw [← HX.out]; exact own2)); have HB2 := Lib.hid hb2
        clear own2 hb2 hk2 hg2 hz2
        go_wp2_with fail
        go_roundw
        case rel => exact ⟨k', m' + 1, cap, some ⟨g', 0, none⟩, (116 :: a) :: L', by omega, by omega, rfl, rfl, HN.out, by unfold Hid; rw [List.length_cons, HLL.out], O2.out, (HB.out.alloc HB.out.size _).trans HB2.out⟩
        case measure => simp [intOf]
      · have hmz : manyE kd = 2 := many_two.2 (by omega)
        rw [hmz] at hmn
        obtain ⟨a, b, L', rfl⟩ := len_cons2 hmn
        have hlm := hLm.out
        rw [List.length_cons, List.length_cons] at hlm
        obtain ⟨m', rfl⟩ : ∃ m', m = m' + 1 + 1 := ⟨m - 2, by omega⟩
        have HLL := Lib.hid (show L'.length = m' by omega)
        rw [lens_cons, lens_cons] at hln
        have la : (bs a).size ≤ 120 := by rw [bs_size]; omega
        have lb : (bs b).size ≤ 120 := by rw [bs_size]; omega
        obtain ⟨aC, hC, hca⟩ := own_cell hO.out (show (stV (a :: b :: L'))[m' + 1]? = some (.string (bs a)) by have := stV_at0 a (b :: L'); rw [List.length_cons, HLL.out] at this; exact this)
        obtain ⟨aC', hC', hcb⟩ := own_cell hO.out (show (stV (a :: b :: L'))[m']? = some (.string (bs b)) by have := stV_at1 a b L'; rw [HLL.out] at this; exact this)
        subst hC
        injection hC' with hC'; subst hC'
        have OC := Lib.hid (show Own wr w.heap.size 9 1 (some aC) m' cc (stV L') by
          have h9 := hO.out.cut (m := m') (by omega) (by simp)
          rw [Nat.mul_one, ← HLL.out, stV_take2, HLL.out] at h9
          exact h9)
        have v6 : IntKind.i64.wrap (((m' + 1 + 1 : Nat) : Int) - 1) = ((m' + 1 : Nat) : Int) := by rw [IntWalk.i64_in _ (by omega)]; omega
        have v7 : IntKind.i64.wrap (((m' + 1 : Nat) : Int) - 1) = (m' : Int) := by rw [IntWalk.i64_in _ (by omega)]; omega
        rw [addrSv] at hca
        have hcc := hO.out.capN
        clear hlm hmn hc1
        by_cases h2 : kd = 2
        · subst h2
          have HX := Lib.hid (show (⟨#[40]⟩ : ByteArray) ++ bs a ++ ⟨#[46]⟩ ++ bs b ++ ⟨#[41]⟩ = bs (40 :: (a ++ 46 :: (b ++ [41]))) by rw [show (⟨#[40]⟩ : ByteArray) = bs [40] from rfl, show (⟨#[46]⟩ : ByteArray) = bs [46] from rfl, show (⟨#[41]⟩ : ByteArray) = bs [41] from rfl]; simp only [bs_add]; congr 1; simp)
          have HN := Lib.hid (show (40 :: (a ++ 46 :: (b ++ [41]))) :: L' = stT (e.drop k') from by rw [HS.out]; rfl)
          clear HS
          go_wp2_with fail
          go_quiet (fail)
          have OC := Lib.hid (OC.out.drewN' nq)
          have HBq := Lib.hid (below_drewN HB.out nq)
          go_wp2_with (at_builtin; refine wp_app1 (by rfl) _ _ 53 9 (.string ⟨#[]⟩) 16 (by rfl) Tryd.underlying53 info_str' rfl w.heap.size (some aC) (m') cc (stV (L')) (by rfl) (by exact OC.out.alloc _) (wr.drewN nq).heap.size (.string (⟨#[40]⟩ ++ bs a ++ ⟨#[46]⟩ ++ bs b ++ ⟨#[41]⟩)) (by rfl) (by exact new_cell _ _ _ 0) rfl (by omega) (by omega) (by simp; omega) ?_; intro g' cap w2 own2 hb2 hk2 hg2 hz2)
          have O2 := Lib.hid (show Own w2 w.heap.size 9 1 (some ⟨g', 0, none⟩) (m' + 1) cap (stV ((40 :: (a ++ 46 :: (b ++ [41]))) :: L')) by rw [stV_cons]; first | exact own2 | (rw [← HX.out]; exact own2)); have HB2 := Lib.hid hb2
          clear own2 hb2 hk2 hg2 hz2
          go_wp2_with fail
          go_roundw
          case rel => exact ⟨k', m' + 1, cap, some ⟨g', 0, none⟩, (40 :: (a ++ 46 :: (b ++ [41]))) :: L', by omega, by omega, rfl, rfl, HN.out, by unfold Hid; rw [List.length_cons, HLL.out], O2.out, (HBq.out.alloc HBq.out.size _).trans HB2.out⟩
          case measure => simp [intOf]
        · obtain rfl : kd = 5 := by omega
          have HX := Lib.hid (show (⟨#[40]⟩ : ByteArray) ++ bs a ++ ⟨#[63]⟩ ++ bs b ++ ⟨#[41]⟩ = bs (40 :: (a ++ 63 :: (b ++ [41]))) by rw [show (⟨#[40]⟩ : ByteArray) = bs [40] from rfl, show (⟨#[63]⟩ : ByteArray) = bs [63] from rfl, show (⟨#[41]⟩ : ByteArray) = bs [41] from rfl]; simp only [bs_add]; congr 1; simp)
          have HN := Lib.hid (show (40 :: (a ++ 63 :: (b ++ [41]))) :: L' = stT (e.drop k') from by rw [HS.out]; rfl)
          clear HS
          go_wp2_with fail
          go_quiet (fail)
          have OC := Lib.hid (OC.out.drewN' nq)
          have HBq := Lib.hid (below_drewN HB.out nq)
          go_wp2_with (at_builtin; refine wp_app1 (by rfl) _ _ 53 9 (.string ⟨#[]⟩) 16 (by rfl) Tryd.underlying53 info_str' rfl w.heap.size (some aC) (m') cc (stV (L')) (by rfl) (by exact OC.out.alloc _) (wr.drewN nq).heap.size (.string (⟨#[40]⟩ ++ bs a ++ ⟨#[63]⟩ ++ bs b ++ ⟨#[41]⟩)) (by rfl) (by exact new_cell _ _ _ 0) rfl (by omega) (by omega) (by simp; omega) ?_; intro g' cap w2 own2 hb2 hk2 hg2 hz2)
          have O2 := Lib.hid (show Own w2 w.heap.size 9 1 (some ⟨g', 0, none⟩) (m' + 1) cap (stV ((40 :: (a ++ 63 :: (b ++ [41]))) :: L')) by rw [stV_cons]; first | exact own2 | (rw [← HX.out]; exact own2)); have HB2 := Lib.hid hb2
          clear own2 hb2 hk2 hg2 hz2
          go_wp2_with fail
          go_roundw
          case rel => exact ⟨k', m' + 1, cap, some ⟨g', 0, none⟩, (40 :: (a ++ 63 :: (b ++ [41]))) :: L', by omega, by omega, rfl, rfl, HN.out, by unfold Hid; rw [List.length_cons, HLL.out], O2.out, (HBq.out.alloc HBq.out.size _).trans HB2.out⟩
          case measure => simp [intOf]
    · obtain rfl : k = 0 := by omega
      have HLx := Lib.hid (show L = [exT 40 e] by rw [hL.out, List.drop_zero, HR.out])
      obtain rfl : L = [exT 40 e] := HLx.out
      obtain rfl : m = 1 := by rw [← hLm.out]; rfl
      obtain ⟨aC, rfl, hca⟩ := own_cell hO.out (show (stV [exT 40 e])[0]? = some (.string (bs (exT 40 e))) from stV_at0 _ [])
      rw [addrZv] at hca
      rw [show (((0 : Nat) : Int) - 1) = -1 from rfl]
      clear hb
      go_wp2_with fail
      go_ret
      exact ⟨rfl, HB.out⟩
end Go.Proofs.YtkchgjegdmcnaaaDoor
