/-
  Two lists of expressions that grow beside each other; a list of commands behind another. Nothing of the program.
-/
import Derived.Test.YtecpbgmcednpoaaRdx
import Derived.Test.YtecpbgmcednpoaaOwnS
import Derived.Test.YtecpbgmcednpoaaMix
import Derived.Test.YtecpbgmcednpoaaCOc
import Derived.Test.YtecpbgmcednpoaaCOb
import Derived.Test.YtecpbgmcednpoaaCWe
namespace Go.Proofs.Ytecpbgmcednpoaa
open Go.RowKit

/-- two lists, and blocks that are neither's own -/
structure TwoL (w : World) (B : Nat) (e : TypeId) (P : Option Addr) (k pc : Nat) (rs : List ItV) (L : Option Addr) (j lc : Nat) (qs : List ItV) (bs : List Nat) : Prop where
  p : OwnP w B e P k pc rs none 0 []
  l : OwnP w B e L j lc qs none 0 []
  d : ∀ a b, P = some a → L = some b → a.block ≠ b.block
  pl : ∀ t ∈ rs, ∀ a b, t.A = some a → L = some b → 0 < t.n → a.block ≠ b.block
  lp : ∀ t ∈ qs, ∀ a b, t.A = some a → P = some b → 0 < t.n → a.block ≠ b.block
  f : ∀ b ∈ bs, b < w.heap.size ∧ (∀ a, P = some a → a.block ≠ b) ∧ (∀ a, L = some a → a.block ≠ b)
  r : ∀ b ∈ bs, ∀ t, t ∈ rs ∨ t ∈ qs → ∀ a, t.A = some a → 0 < t.n → a.block ≠ b
section
variable {w w' : World} {B : Nat} {e : TypeId} {P L : Option Addr} {k pc j lc : Nat} {rs qs : List ItV} {bs : List Nat}
theorem TwoL.swap (h : TwoL w B e P k pc rs L j lc qs bs) : TwoL w B e L j lc qs P k pc rs bs := ⟨h.l, h.p, fun a b ha hb => (h.d b a hb ha).symm, h.lp, h.pl, fun b hb => ⟨(h.f b hb).1, (h.f b hb).2.2, (h.f b hb).2.1⟩, fun b hb t ht => h.r b hb t ht.symm⟩
theorem TwoL.keep (h : TwoL w B e P k pc rs L j lc qs bs) (hb : Below w.heap.size w w') : TwoL w' B e P k pc rs L j lc qs bs := ⟨h.p.keep hb, h.l.keep hb, h.d, h.pl, h.lp, fun b hb' => ⟨Nat.lt_of_lt_of_le (h.f b hb').1 hb.size, (h.f b hb').2⟩, h.r⟩
/-- an element more at the first list: its row is new since the world w0 -/
theorem TwoL.push {w0 w1 : World} {g' cap k' : Nat} {t : ItV} (h : TwoL w0 B e P k pc rs L j lc qs bs) (hB : B ≤ w0.heap.size) (hb : Below w0.heap.size w0 w1) (hs : Rd w1 t.A (t.n * 2) t.vs) (hn : ∀ a, t.A = some a → w0.heap.size ≤ a.block)
    (hown : Own w' B e 1 (some ⟨g', 0, none⟩) k' cap (rs.map hdV ++ [hdV t])) (hk : ∀ b, b < w1.heap.size → (∀ ad', P = some ad' → ad'.block ≠ b) → w'.heap[b]? = w1.heap[b]?) (hg : P = some ⟨g', 0, none⟩ ∨ g' = w1.heap.size) (hz : w1.heap.size ≤ w'.heap.size) :
    TwoL w' B e (some ⟨g', 0, none⟩) k' cap (rs ++ [t]) L j lc qs bs := by
  have h1 := h.keep hb
  have hz1 := hb.size
  have hL0 : ∀ b, L = some b → b.block < w0.heap.size := fun b hb' => (h.l.own.block hb').2.1
  refine ⟨h.p.push hB hb hs hn hown hk hg hz, ?_, fun a b ha hb' => ?_, fun u hu a b ha hb' hm => ?_, fun u hu a b ha hb' hm => ?_, fun b hb' => ⟨Nat.lt_of_lt_of_le (h1.f b hb').1 hz, fun a ha => ?_, (h.f b hb').2.2⟩, fun b hb' u hu a ha hm => ?_⟩
  · refine ⟨h1.l.own.move fun ad ha => hk _ (h1.l.own.block ha).2.1 fun ad' hA => h.d ad' ad hA ha, fun u hu => ?_, h.l.ne, h.l.new, Rd.nil, fun a p ha => by cases ha⟩
    exact (h1.l.rows u hu).at_block (fun a ha hm => hk _ ((h1.l.rows u hu).blocks a hm ha) fun ad' hA => (h.lp u hu a ad' ha hA (by omega)).symm) hz
  · injection ha with ha; subst ha
    show g' ≠ b.block
    rcases hg with hg | hg
    · exact h.d _ b hg hb'
    · have := hL0 b hb'; omega
  · rcases List.mem_append.1 hu with hu | hu
    · exact h.pl u hu a b ha hb' hm
    · rw [List.mem_singleton] at hu; subst hu
      have := hL0 b hb'; have := hn a ha; omega
  · injection hb' with hb'; subst hb'
    show a.block ≠ g'
    rcases hg with hg | hg
    · exact h.lp u hu a _ ha hg hm
    · have := (h1.l.rows u hu).blocks a (by omega) ha; omega
  · injection ha with ha; subst ha
    show g' ≠ b
    rcases hg with hg | hg
    · exact (h.f b hb').2.1 _ hg
    · have := (h1.f b hb').1; omega
  · rcases hu with hu | hu
    · rcases List.mem_append.1 hu with hu | hu
      · exact h.r b hb' u (.inl hu) a ha hm
      · rw [List.mem_singleton] at hu; subst hu
        have := (h.f b hb').1; have := hn a ha; omega
    · exact h.r b hb' u (.inr hu) a ha hm
/-- a store into one of the blocks beside -/
theorem TwoL.setF (h : TwoL w B e P k pc rs L j lc qs bs) {p : Addr} (hp : p.block ∈ bs) (u : Value) : TwoL (w.setCell p u) B e P k pc rs L j lc qs bs := by
  have hf := h.f _ hp
  refine ⟨⟨h.p.own.far (fun ad ha => hf.2.1 ad ha) u, fun t ht => ?_, h.p.ne, h.p.new, Rd.nil, fun a p ha => by cases ha⟩, ⟨h.l.own.far (fun ad ha => hf.2.2 ad ha) u, fun t ht => ?_, h.l.ne, h.l.new, Rd.nil, fun a p ha => by cases ha⟩, h.d, h.pl, h.lp, fun b hb => by rw [World.size_setCell]; exact h.f b hb, h.r⟩
  · exact (h.p.rows t ht).at_block (fun a ha hm => Below.heap_setCell w p u a.block (h.r _ hp t (.inl ht) a ha (by omega))) (by simp)
  · exact (h.l.rows t ht).at_block (fun a ha hm => Below.heap_setCell w p u a.block (h.r _ hp t (.inr ht) a ha (by omega))) (by simp)
end
/-- worlds in which some cells hold what they hold -/
structure ExtC (cs : List (Addr × Value)) where
  w : World
  holds : ∀ p ∈ cs, w.cell? p.1 = some p.2
theorem ExtC.cell {cs : List (Addr × Value)} {p : Addr} {v : Value} (h : (p, v) ∈ cs) (x : ExtC cs) : x.w.cell? p = some v := x.holds _ h
/-- commands behind commands -/
theorem OwnS.append {w0 w1 w' : World} {B : Nat} {e : TypeId} {size n c n2 c2 g' cap n' : Nat} {A A2 : Option Addr} {vs vs2 : List Value} {ss ss2 : List Seg} (h : OwnS w0 B e size A n c vs ss) (hB : B ≤ w0.heap.size) (hb : Below w0.heap.size w0 w1) (h2 : OwnS w1 w0.heap.size e size A2 n2 c2 vs2 ss2)
    (hown : Own w' B e size (some ⟨g', 0, none⟩) n' cap (vs ++ vs2)) (hk : ∀ b, b < w1.heap.size → (∀ ad', A = some ad' → ad'.block ≠ b) → w'.heap[b]? = w1.heap[b]?) (hg : A = some ⟨g', 0, none⟩ ∨ g' = w1.heap.size) (hz : w1.heap.size ≤ w'.heap.size) :
    OwnS w' B e size (some ⟨g', 0, none⟩) n' cap (vs ++ vs2) (ss ++ ss2) := by
  have h1 := h.keep hb
  have hz1 := hb.size
  have hold : ∀ t ∈ ss, ∀ a, t.A = some a → 0 < t.n → a.block < w0.heap.size := fun t ht a ha hn => by
    obtain ⟨a', e', _, _, h3, _⟩ := (h.wrs.each t ht).2 hn
    rw [ha] at e'; injection e' with e'; subst e'; exact h3
  have hnew : ∀ t ∈ ss2, ∀ a, t.A = some a → 0 < t.n → w0.heap.size ≤ a.block ∧ a.block < w1.heap.size := fun t ht a ha hn => by
    obtain ⟨a', e', h4, _, h3, _⟩ := (h2.wrs.each t ht).2 hn
    rw [ha] at e'; injection e' with e'; subst e'; exact ⟨h4, h3⟩
  have hA : ∀ ad', A = some ad' → ad'.block < w0.heap.size := fun ad' ha => (h.own.block ha).2.1
  refine ⟨hown, ⟨fun t ht => ?_, ?_⟩, fun t ht ad a had ha hn => ?_⟩
  · rcases List.mem_append.1 ht with ht | ht
    · exact (h1.wrs.each t ht).move (fun a hn ha => hk _ (Nat.lt_of_lt_of_le (hold t ht a ha hn) hz1) fun ad' hA' => (h.ne t ht ad' a hA' ha hn).symm) hz hz
    · exact ((h2.wrs.each t ht).wider hB (Nat.le_refl _)).move (fun a hn ha => hk _ (hnew t ht a ha hn).2 fun ad' hA' => by have := hA ad' hA'; have := (hnew t ht a ha hn).1; omega) hz hz
  · refine List.pairwise_append.2 ⟨h.wrs.apart, h2.wrs.apart, fun t ht u hu a b ha hb' hn hm => ?_⟩
    have := hold t ht a ha hn; have := (hnew u hu b hb' hm).1; omega
  · injection had with had; subst had
    rcases List.mem_append.1 ht with ht | ht
    · rcases hg with hg | hg
      · exact h.ne t ht _ a hg ha hn
      · have := hold t ht a ha hn; show a.block ≠ g'; omega
    · rcases hg with hg | hg
      · have := hA _ hg; have := (hnew t ht a ha hn).1; show a.block ≠ g'; simp at *; omega
      · have := (hnew t ht a ha hn).2; show a.block ≠ g'; omega

/-- the places so far -/
def PlacesL (N k : Nat) (rs : List ItV) : Prop := rs.map ItV.vs = (List.range k).map (fun j => (placeP j N).flatMap enc2) ∧ ∀ t ∈ rs, t.n ≤ 20 ∧ t.n ≤ t.c
theorem PlacesL.push {N k : Nat} {rs : List ItV} {A : Option Addr} {n c : Nat} (h : PlacesL N k rs) (hn : n ≤ 20) (hc : n ≤ c) : PlacesL N (k + 1) (rs ++ [⟨A, n, c, (placeP k N).flatMap enc2⟩]) := by
  refine ⟨by rw [List.map_append, h.1, List.range_succ]; simp, fun t ht => ?_⟩
  rcases List.mem_append.1 ht with ht | ht
  · exact h.2 t ht
  · rw [List.mem_singleton] at ht; subst ht; exact ⟨hn, hc⟩
theorem wp_appCmds {ops : Array Oper} {rest : List Oper} {o : Oper} {a : Act} {w : World} {Q : Exit → Act → World → Prop} (hgd : o.guard = none) (s x : Operand)
    (ho : o.op = .call { callee := .builtin .append, args := #[s, x], argTypes := #[27, 27] })
    (B : Nat) (A : Option Addr) (n c : Nat) (ps : List Ct) (hs : a.eval s = .slice A n c) (w0 : World) (h0 : OwnS w0 B 46 4 A n c (ps.flatMap hdC) (ps.map bodyC)) (hB0 : B ≤ w0.heap.size) (hb : Below w0.heap.size w0 w)
    (A2 : Option Addr) (n2 c2 : Nat) (js : List Ct) (hx : a.eval x = .slice A2 n2 c2) (h2 : OwnS w w0.heap.size 46 4 A2 n2 c2 (js.flatMap hdC) (js.map bodyC)) (hn2 : 0 < n2) (hlen : n + n2 ≤ 1000000000)
    (h : ∀ A' cap w', OwnS w' B 46 4 A' (n + n2) cap ((ps ++ js).flatMap hdC) ((ps ++ js).map bodyC) → Below B w w' → w.heap.size ≤ w'.heap.size →
      wpList Try.prog ops Q rest (a.put o.dst (.slice A' (n + n2) cap)) w') : wpList Try.prog ops Q (o :: rest) a w := by
  obtain ⟨hl, hc⟩ := h2.own.wrK.rd
  obtain ⟨ad, rfl, _, hcs⟩ := hc (by omega)
  refine wp_app hgd s x 27 46 (.agg #[.int .i64 0, .int .i64 0, .int .i64 0, .slice none 0 0]) 4 48 ho Try.underlying27 info_Command rfl (by omega) B A n c (ps.flatMap hdC) hs (h0.keep hb).own ad n2 c2 (js.flatMap hdC) hx hn2 hl hcs ?_ (by omega) (by omega) (by have := hb.size; omega) ?_
  · intro u hu
    obtain ⟨t, _, ht⟩ := List.mem_flatMap.1 hu
    exact hdC_one t u ht
  · intro g' cap w3 own3 hb3 hk3 hg3 hz3
    refine h (some ⟨g', 0, none⟩) cap w3 ?_ hb3 hz3
    rw [List.flatMap_append, List.map_append]
    exact h0.append hB0 hb h2 own3 hk3 hg3 hz3
set_option maxHeartbeats 8000000 in
set_option maxRecDepth 100000 in
theorem oneVariable_c (A : Option Addr) (n c : Nat) (ps : List Ct) (D : List Cmd) (w : World) (h : RdS w (sgCS A n ps)) (hD : ps.map datC = D) (hv : validW D = true) :
    Calls Try.prog 43 #[.slice A n c] w (CmOut2 (if validW (oneD D) = true then (oneD D, 0) else ([], 5)) w) := by
  obtain ⟨R, hR⟩ : ∃ R, (if validW (oneD D) = true then (oneD D, 0) else (([], 5) : List Cmd × Int)) = R := ⟨_, rfl⟩
  rw [hR]
  have hl := RdCS.len h
  obtain ⟨hv1, hv2⟩ := validW_all hv
  have hn80 : n ≤ 80 := by rw [← hl, ← List.length_map (f := datC), hD]; exact hv1
  obtain ⟨T, hT⟩ : ∃ T, topW D = T := ⟨_, rfl⟩
  have hTb := topW_bd hv
  rw [hT] at hTb
  have hvz := vcL_zero _ D (Nat.le_refl _) (by simp only [validW, Bool.and_eq_true] at hv; exact hv.2)
  obtain ⟨S, hS⟩ : ∃ S, normV (varsW D) = S := ⟨_, rfl⟩
  have hT1 := topV_prog hS
  rw [hT] at hT1
  have hSb : ∀ v ∈ S, 0 ≤ v ∧ v ≤ 5 := fun v hx => varsW_bd hv v (by rw [← hS] at hx; exact normV_mem.1 hx)
  have hi40 : ∀ t ∈ ps, 0 < t.n ∧ t.n ≤ 40 := fun t ht => by
    have h1 : Rd2 w t.A t.n t.xs := h.tail (bodyC t) (List.mem_map_of_mem ht)
    obtain ⟨e1, _, _⟩ := hv2 (datC t) (by rw [← hD]; exact List.mem_map_of_mem ht)
    have h2 := (validE_end e1).2
    have h3 : t.xs.length = t.n := h1.len
    have h4 : t.xs.length ≤ 40 := h2.2.1
    have h5 : 1 ≤ t.xs.length := h2.1
    omega
  have HR := Lib.hid hR; have HD := Lib.hid hD; have HV2 := Lib.hid hv2; have HV := Lib.hid hv; have HT := Lib.hid hT; have HVZ := Lib.hid hvz; have HS := Lib.hid hS; have HSB := Lib.hid hSb; have HI := Lib.hid hi40
  have HDL := Lib.hid (show D.length = n by rw [← hD, List.length_map, hl])
  have H := Lib.hid h
  obtain ⟨w1, hw1⟩ : ∃ w1, w.alloc (.cells #[.int .i64 1] 2) = w1 := ⟨_, rfl⟩
  have E1 := Lib.hid (show Below w.heap.size w w1 by rw [← hw1]; exact below_size.alloc (Nat.le_refl _) _)
  have K1 := Lib.hid (show Blk w1 w.heap.size 2 #[.int .i64 1] by rw [← hw1]; exact Blk.new _ _ _)
  have hz1 : w1.heap.size = w.heap.size + 1 := by rw [← hw1]; simp
  obtain ⟨T1, hT1'⟩ : ∃ T1, topV S 1 = T1 := ⟨_, rfl⟩
  have HT1 := Lib.hid hT1'
  rw [hT1'] at hT1
  have HTT := Lib.hid hT1
  clear hR hl hv hv1 hv2 hD hT h hvz hi40 hS hSb hT1' hT1
  go_enter Try.func43, Try.ntmps43
  go_wp2_with fail
  refine (whileVariables_c A n c ps D S w1 (H.out.below E1.out) HD.out HV.out HS.out).mono ?_
  rintro e w2 ⟨A2, m2, c2, rfl, hw2, hm2, hb2⟩
  have E2 := Lib.hid (below_chain E1.out (by omega) hb2)
  have K2 := Lib.hid (K1.out.below hb2 (by omega))
  have W2 := Lib.hid hw2
  have hz2 := hb2.size
  clear hw2 hb2
  go_wp2_with fail
  go_loopw [15] (fun iv wr => ∃ (i : Nat) (nn : Int), i ≤ m2 ∧ iv = .int .i64 i ∧ 1 ≤ nn ∧ nn ≤ 6 ∧ Hid (Blk wr w.heap.size 2 #[.int .i64 nn]) ∧ Hid (topV (S.drop i) nn = T1) ∧ Hid (KeepR w.heap.size (w.heap.size + 1) w2 wr)) (fun iv _ => m2 - (intOf iv).toNat)
  case atStart => exact ⟨0, 1, by omega, rfl, by omega, by omega, K2.out, HT1.out, KeepR.refl _ _ _⟩
  case round =>
    obtain ⟨i, nn, him, rfl, hn1, hn6, hK, hr, hKR⟩ := hrel
    have hzr := hKR.out.size
    have k0 : wr.cell? ⟨w.heap.size, 0, none⟩ = some (.int .i64 nn) := hK.out.cell 0
    by_cases hlt : i < m2
    · obtain ⟨ad, v, rfl, hab, hx, hc⟩ := (RdI.at_ (show RdI wr A2 m2 S from (W2.out.keep hKR.out (.inr (by omega))).rdI) hlt)
      have hvb := HSB.out v (List.mem_of_getElem? hx)
      have HG := Lib.hid (show topV (S.drop (i + 1)) (if nn > v + 1 then nn else v + 1) = T1 by rw [← hr.out, drop_at hx, topV_cons])
      have f0 := hK.out.frozen 0
      clear hx hr
      go_wp2_with fail
      go_roundw
      case rel => exact ⟨i + 1, max nn (v + 1), by omega, by go_num, by omega, by omega, hK.out.set_ 0 _, by have h1 := HG.out; rwa [show (if nn > v + 1 then nn else v + 1) = max nn (v + 1) from by rw [Int.max_def]; split <;> split <;> omega] at h1, hKR.out.setCell (Nat.le_refl _) (by show w.heap.size < w.heap.size + 1; omega) _⟩
      case measure => simp [intOf]; omega
    · have HG := Lib.hid (show nn = T1 by rw [← hr.out, List.drop_eq_nil_of_le (by rw [W2.out.rdI.len]; omega)]; rfl)
      have BR := Lib.hid (E2.out.trans (hKR.out.below (Nat.le_refl _) (by omega)))
      have hzR := BR.out.size
      have KR := Lib.hid hK.out
      clear hr hKR hK
      by_cases hT1 : T ≤ 1
      · obtain rfl : nn = 1 := by rw [HG.out, HTT.out, if_pos hT1]
        have HO := Lib.hid (show oneD D = D by rw [oneD, HT.out, if_pos hT1])
        have HRR := Lib.hid (show (D, (0 : Int)) = R by rw [← HR.out, HO.out, if_pos HV.out])
        go_wp2_with fail
        refine (copyWhile_c A n c ps D wr (H.out.below BR.out) (by omega) HD.out HI.out).mono ?_
        rintro e w3 ⟨A', c', js, rfl, hO, hj, hj1, hb3⟩
        have O3 := Lib.hid (hO.widen' hzR); have J3 := Lib.hid hj; have I3 := Lib.hid hj1; have B3 := Lib.hid (below_chain BR.out hzR hb3)
        clear hO hj hj1 hb3
        go_wp2_with fail
        go_ret2
        rw [← HRR.out]
        exact CmOut2.good O3.out (by omega) I3.out J3.out B3.out
      obtain ⟨N, hNe⟩ : ∃ N : Nat, nn = N := ⟨nn.toNat, by omega⟩
      subst hNe
      have HNT := Lib.hid (show (N : Int) = T by rw [HG.out, HTT.out, if_neg hT1])
      have hN2 : 2 ≤ N := by have := HNT.out; omega
      have hN6 : N ≤ 6 := by omega
      have HO := Lib.hid (show oneD D = oneP N D by rw [oneD, HT.out, if_neg hT1, ← HNT.out, Int.toNat_natCast])
      have gN : ((N : Int) == 1) = false := by simp; omega
      obtain ⟨wA, hwA⟩ : ∃ wA, wr.alloc (.cells #[] 44) = wA := ⟨_, rfl⟩
      obtain ⟨wB, hwB⟩ : ∃ wB, wA.alloc (.cells #[] 44) = wB := ⟨_, rfl⟩
      obtain ⟨wC, hwC⟩ : ∃ wC, wB.alloc (.cells #[.slice (some ⟨wA.heap.size, 0, none⟩) 0 0] 68) = wC := ⟨_, rfl⟩
      have EA := Lib.hid (show Below wr.heap.size wr wA by rw [← hwA]; exact below_size.alloc (Nat.le_refl _) _)
      have hzA : wA.heap.size = wr.heap.size + 1 := by rw [← hwA]; simp
      have EB := Lib.hid (show Below wA.heap.size wA wB by rw [← hwB]; exact below_size.alloc (Nat.le_refl _) _)
      have hzB : wB.heap.size = wA.heap.size + 1 := by rw [← hwB]; simp
      have EC := Lib.hid (show Below wB.heap.size wB wC by rw [← hwC]; exact below_size.alloc (Nat.le_refl _) _)
      have hzC : wC.heap.size = wB.heap.size + 1 := by rw [← hwC]; simp
      have KN := Lib.hid (((KR.out.keep EA.out).keep EB.out).keep EC.out)
      have KB := Lib.hid (show Blk wC wB.heap.size 68 #[.slice (some ⟨wA.heap.size, 0, none⟩) 0 0] by rw [← hwC]; exact Blk.new _ _ _)
      have hwl : w.heap.size < wr.heap.size := KR.out.lt
      have TT := Lib.hid (show TwoL wC w.heap.size 44 (some ⟨wr.heap.size, 0, none⟩) 0 0 [] (some ⟨wA.heap.size, 0, none⟩) 0 0 [] [w.heap.size, wB.heap.size] from
        ⟨OwnP.nil ((show Own wA w.heap.size 44 1 (some ⟨wr.heap.size, 0, none⟩) 0 0 [] by rw [← hwA]; exact Own.lit hzR).keep EB.out |>.keep EC.out),
         OwnP.nil ((show Own wB w.heap.size 44 1 (some ⟨wA.heap.size, 0, none⟩) 0 0 [] by rw [← hwB]; exact Own.lit (by omega)).keep EC.out),
         (fun a b ha hb => by injection ha with ha; injection hb with hb; subst ha; subst hb; show wr.heap.size ≠ wA.heap.size; omega),
         (fun t ht => by cases ht), (fun t ht => by cases ht),
         (fun b hb => by
          simp only [List.mem_cons, List.not_mem_nil, or_false] at hb
          rcases hb with rfl | rfl
          · exact ⟨by omega, fun a ha => by injection ha with ha; subst ha; show wr.heap.size ≠ w.heap.size; omega, fun a ha => by injection ha with ha; subst ha; show wA.heap.size ≠ w.heap.size; omega⟩
          · exact ⟨by omega, fun a ha => by injection ha with ha; subst ha; show wr.heap.size ≠ wB.heap.size; omega, fun a ha => by injection ha with ha; subst ha; show wA.heap.size ≠ wB.heap.size; omega⟩),
         (fun b hb t ht => by rcases ht with ht | ht <;> cases ht)⟩)
      have BC := Lib.hid (((BR.out.trans (EA.out.mono hzR)).trans (EB.out.mono (by omega))).trans (EC.out.mono (by omega)))
      have k0' : wC.cell? ⟨w.heap.size, 0, none⟩ = some (.int .i64 N) := KN.out.cell 0
      have hwBl : w.heap.size < wB.heap.size := by omega
      clear hzA hzB hzC hz1
      go_wp2_with fail
      go_loopw [7, 31] (fun pv kv wr => ∃ (k pc lc : Nat) (P L : Option Addr) (rs qs : List ItV), k ≤ N ∧ kv = .int .i64 k ∧ pv = .slice P k pc ∧ Hid (TwoL wr w.heap.size 44 P k pc rs L k lc qs [w.heap.size, wB.heap.size]) ∧ Hid (PartsL (startP N) k rs) ∧ Hid (∀ t ∈ rs, t.n ≤ t.c) ∧ Hid (PlacesL N k qs) ∧ Hid (Blk wr w.heap.size 2 #[.int .i64 N]) ∧ Hid (Blk wr wB.heap.size 68 #[.slice L k lc]) ∧ Below w.heap.size w wr) (fun _ kv _ => N - (intOf kv).toNat)
      case atStart => exact ⟨0, 0, 0, _, _, [], [], by omega, rfl, rfl, TT.out, ⟨rfl, fun t ht => by cases ht⟩, (fun t ht => by cases ht), ⟨rfl, fun t ht => by cases ht⟩, KN.out, KB.out, BC.out⟩
      case round =>
        clear TT KN KB k0' k0
        obtain ⟨k, pc, lc, P, L, rs, qs, hkN, rfl, rfl, hT, hpl, hpc, hql, hKN, hKB, hb⟩ := hrel
        have HB := Lib.hid hb
        have hzr := hb.size
        have hln : w.heap.size < wr.heap.size := hKN.out.lt
        have hlb : wB.heap.size < wr.heap.size := hKB.out.lt
        clear hb
        by_cases hlt : k < N
        · by_cases hk0 : k = 0
          · have gk : ((k : Int) == 0) = true := by simp; omega
            have HK0 := Lib.hid hk0
            clear hk0
            obtain ⟨w0E, hw0E⟩ : ∃ w0E, wr.alloc (.cells #[.int .i64 0, .int .i64 0] 49) = w0E := ⟨_, rfl⟩
            have K0E := Lib.hid (show Blk w0E wr.heap.size 49 #[.int .i64 0, .int .i64 0] by rw [← hw0E]; exact Blk.new _ _ _)
            have E0E := Lib.hid (show Below wr.heap.size wr w0E by rw [← hw0E]; exact below_size.alloc (Nat.le_refl _) _)
            have hz0E : wr.heap.size < w0E.heap.size := by rw [← hw0E]; simp
            have c0 : w0E.cell? ⟨wr.heap.size, 0, none⟩ = some (.int .i64 0) := K0E.out.cell 0
            have c1 : w0E.cell? ⟨wr.heap.size, 1, none⟩ = some (.int .i64 0) := K0E.out.cell 1
            have f0 := K0E.out.frozen 0; have f1 := K0E.out.frozen 1
            go_wp2_with fail
            obtain ⟨wE, hwE⟩ : ∃ wE, (((w0E.setCell ⟨wr.heap.size, 0, none⟩ (.int .i64 0)).setCell ⟨wr.heap.size, 1, none⟩ (.int .i64 0)).setCell ⟨wr.heap.size, 0, none⟩ (.int .i64 1)).setCell ⟨wr.heap.size, 1, none⟩ (.int .i64 0) = wE := ⟨_, rfl⟩
            rw [hwE]
            have EE := Lib.hid (show Below wr.heap.size wr wE by rw [← hwE]; exact (((E0E.out.setCell (Nat.le_refl _) _).setCell (Nat.le_refl _) _).setCell (Nat.le_refl _) _).setCell (Nat.le_refl _) _)
            have hzE : wr.heap.size < wE.heap.size := by rw [← hwE]; simp only [World.size_setCell]; exact hz0E
            have KE := Lib.hid (show Blk wE wr.heap.size 49 #[.int .i64 1, .int .i64 0] by rw [← hwE]; exact (((K0E.out.set_ 0 _).set_ 1 _).set_ 0 _).set_ 1 _)
            clear K0E E0E hwE hw0E c0 c1 f0 f1 hz0E
            have TE := Lib.hid (hT.out.keep EE.out)
            have KN := Lib.hid (hKN.out.keep EE.out); have KB := Lib.hid (hKB.out.keep EE.out)
            have HST := Lib.hid (show (startP N)[k]? = some [((1 : Int), (0 : Int))] by rw [HK0.out]; exact startP_zero (by omega))
            obtain ⟨cs, hcs⟩ : ∃ cs : List (Addr × Value), [((⟨wr.heap.size, 0, none⟩ : Addr), (.int .i64 1 : Value)), (⟨wr.heap.size, 1, none⟩, .int .i64 0), (⟨wB.heap.size, 0, none⟩, .slice L k lc), (⟨w.heap.size, 0, none⟩, .int .i64 N)] = cs := ⟨_, rfl⟩
            have Z0 : ∀ x : ExtC cs, x.w.cell? ⟨wr.heap.size, 0, none⟩ = some (.int .i64 1) := ExtC.cell (by rw [← hcs]; simp)
            have Z1 : ∀ x : ExtC cs, x.w.cell? ⟨wr.heap.size, 1, none⟩ = some (.int .i64 0) := ExtC.cell (by rw [← hcs]; simp)
            have Z2 : ∀ x : ExtC cs, x.w.cell? ⟨wB.heap.size, 0, none⟩ = some (.slice L k lc) := ExtC.cell (by rw [← hcs]; simp)
            have Z3 : ∀ x : ExtC cs, x.w.cell? ⟨w.heap.size, 0, none⟩ = some (.int .i64 N) := ExtC.cell (by rw [← hcs]; simp)
            have HCS := Lib.hid (show ∀ w', Blk w' wr.heap.size 49 #[.int .i64 1, .int .i64 0] → Blk w' wB.heap.size 68 #[.slice L k lc] → Blk w' w.heap.size 2 #[.int .i64 N] → ∀ p ∈ cs, w'.cell? p.1 = some p.2 from fun w' h1 h2 h3 p hp => by
              rw [← hcs] at hp
              simp only [List.mem_cons, List.not_mem_nil, or_false] at hp
              rcases hp with rfl | rfl | rfl | rfl
              · exact h1.cell 0
              · exact h1.cell 1
              · exact h2.cell 0
              · exact h3.cell 0)
            have HCE := Lib.hid (show ∀ w', Below wE.heap.size wE w' → ∀ p ∈ cs, w'.cell? p.1 = some p.2 from fun w' h => HCS.out w' (KE.out.keep h) (KB.out.keep h) (KN.out.keep h))
            have hne : Nonempty (ExtC cs) := ⟨⟨wE, HCE.out _ below_size⟩⟩
            clear hcs
            refine Mix.wp_region_mix [0, 3, 1, 1, 1, 3, 0, 3, 1, 1, 1, 0, 2] (fun w' => ∃ x : ExtC cs, w' = x.w) (by kernel_rfl) (by kernel_rfl) ⟨⟨wE.drew, HCE.out _ (below_drew below_size)⟩, rfl⟩ ?_
            repeat (first | (refine Mix.wpMix_read (by rfl) ?_; go_big_quiet_step (fail); refine wpQuiet_nil ?_) | (refine Mix.wpMix_pure (by rfl) ?_; go_big_quiet_step (fail); refine wpQuiet_nil ?_))
            refine Mix.wpMix_chg (by rfl) (fun K hK => ?_)
            go_wp2_with fail
            refine hK _ _ ⟨⟨_, HCE.out _ (below_drew (below_size.alloc (Nat.le_refl _) _))⟩, rfl⟩ ?_
            clear hK K
            refine Mix.wpMix_chg (by rfl) (fun K hK => ?_)
            go_wp2_with fail
            obtain ⟨wF, hwF⟩ : ∃ wF, ((wE.alloc (.cells #[.int .i64 1, .int .i64 0] 49)).alloc (.cells #[.slice (some ⟨wE.heap.size, 0, none⟩) 1 1] 44)).drew = wF := ⟨_, rfl⟩
            rw [hwF]
            have EF := Lib.hid (show Below wE.heap.size wE wF by rw [← hwF]; exact below_drew ((below_size.alloc (Nat.le_refl _) _).alloc (by simp) _))
            have hzF : wF.heap.size = wE.heap.size + 2 := by rw [← hwF]; simp
            have RF := Lib.hid (show Rd wF (some ⟨wE.heap.size, 0, none⟩) (1 * 2) ([((1 : Int), (0 : Int))].flatMap enc2) by rw [← hwF]; exact ((rd_newE [(1, 0)] _ rfl rfl : Rd2 _ _ 1 _).alloc _).below (below_drew below_size))
            have cF : wF.cell? ⟨wE.heap.size + 1, 0, none⟩ = some (.slice (some ⟨wE.heap.size, 0, none⟩) 1 1) := by
              rw [← hwF]
              have := new_cell (wE.alloc (.cells #[.int .i64 1, .int .i64 0] 49)) #[.slice (some ⟨wE.heap.size, 0, none⟩) 1 1] 44 0
              rw [World.size_alloc] at this
              exact this
            clear hwF
            refine hK _ _ ⟨⟨_, HCE.out _ EF.out⟩, rfl⟩ ?_
            clear hK K
            refine Mix.wpMix_chg (by rfl) (fun K hK => ?_)
            refine wp_app1 (by rfl) _ _ 68 44 (.slice none 0 0) 24 (by rfl) Try.underlying68 info_sE rfl w.heap.size P k pc (rs.map hdV) (by rfl) (by exact TE.out.p.own.keep EF.out) (wE.heap.size + 1) (.slice (some ⟨wE.heap.size, 0, none⟩) 1 1) (by rfl) (by exact cF) rfl (by omega) (by omega) (by omega) ?_
            intro g9 c9 w9 own9 hb9 hk9 hg9 hz9
            have T9 := Lib.hid (TE.out.push (t := ⟨some ⟨wE.heap.size, 0, none⟩, 1, 1, [((1 : Int), (0 : Int))].flatMap enc2⟩) (by omega) EF.out RF.out (fun a ha => by injection ha with ha; subst ha; exact Nat.le_refl _) own9 hk9 hg9 hz9)
            have KE9 := Lib.hid (show Blk w9 wr.heap.size 49 #[.int .i64 1, .int .i64 0] from (hk9 _ (by omega) (fun ad' h => by have := (hT.out.p.own.block h).2.1; omega)).trans (KE.out.keep EF.out))
            have KB9 := Lib.hid (show Blk w9 wB.heap.size 68 #[.slice L k lc] from (hk9 _ (by omega) (fun ad' h => (hT.out.f wB.heap.size (by simp)).2.1 ad' h)).trans (KB.out.keep EF.out))
            have KN9 := Lib.hid (show Blk w9 w.heap.size 2 #[.int .i64 N] from (hk9 _ (by omega) (fun ad' h => (hT.out.f w.heap.size (by simp)).2.1 ad' h)).trans (KN.out.keep EF.out))
            have B9 := Lib.hid ((below_chain (below_chain HB.out hzr EE.out) (by omega) EF.out).trans hb9)
            have HC9 := Lib.hid (show ∀ w', Below w9.heap.size w9 w' → ∀ p ∈ cs, w'.cell? p.1 = some p.2 from fun w' h => HCS.out w' (KE9.out.keep h) (KB9.out.keep h) (KN9.out.keep h))
            have PL9 := Lib.hid (hpl.out.push (A := some ⟨wE.heap.size, 0, none⟩) (n := 1) (c := 1) HST.out (by omega))
            have hLlt : ∀ a, L = some a → a.block < wr.heap.size := fun a h => (hT.out.l.own.block h).2.1
            have hLf := hT.out.f
            have hz9' : wr.heap.size < w9.heap.size := by omega
            clear own9 hb9 hk9 hg9 hz9 EE EF KE KB KN HCE TE RF cF hzF hT hpl HST
            go_wp2_with fail
            refine hK _ _ ⟨⟨_, HC9.out _ below_size⟩, rfl⟩ ?_
            clear hK K
            repeat (first | (refine Mix.wpMix_read (by rfl) ?_; go_big_quiet_step (fail); refine wpQuiet_nil ?_) | (refine Mix.wpMix_pure (by rfl) ?_; go_big_quiet_step (fail); refine wpQuiet_nil ?_))
            refine Mix.wpMix_chg (by rfl) (fun K hK => ?_)
            go_wp2_with fail
            refine (placeOf_c k N w9 (by omega) (by omega)).mono ?_
            rintro e w10 ⟨A10, m10, c10, rfl, hw10, hc10, hb10⟩
            have E10 := Lib.hid hb10; have W10 := Lib.hid hw10
            have hm10 := wr_len2 hw10
            have hz10 := hb10.size
            have hpl10 := placeP_len k N
            clear hw10 hb10
            go_wp2_with fail
            refine hK _ _ ⟨⟨_, HC9.out _ E10.out⟩, rfl⟩ ?_
            clear hK K
            refine Mix.wpMix_chg (by rfl) (fun K hK => ?_)
            go_wp2_with fail
            obtain ⟨w11, hw11⟩ : ∃ w11, w10.alloc (.cells #[.slice A10 m10 c10] 44) = w11 := ⟨_, rfl⟩
            rw [hw11]
            have E11 := Lib.hid (show Below w9.heap.size w9 w11 by rw [← hw11]; exact E10.out.alloc hz10 _)
            have W11 := Lib.hid (show Wr w11 w9.heap.size w10.heap.size A10 (m10 * 2) ((placeP k N).flatMap enc2) by rw [← hw11]; exact W10.out.alloc _)
            have c11 : w11.cell? ⟨w10.heap.size, 0, none⟩ = some (.slice A10 m10 c10) := by rw [← hw11]; exact new_cell _ _ _ 0
            have hz11 : w11.heap.size = w10.heap.size + 1 := by rw [← hw11]; simp
            clear hw11
            refine hK _ _ ⟨⟨_, HC9.out _ E11.out⟩, rfl⟩ ?_
            clear hK K
            refine Mix.wpMix_chg (by rfl) (fun K hK => ?_)
            refine wp_app1 (by rfl) _ _ 68 44 (.slice none 0 0) 24 (by rfl) Try.underlying68 info_sE rfl w.heap.size L k lc (qs.map hdV) (by rfl) (by exact T9.out.l.own.keep E11.out) w10.heap.size (.slice A10 m10 c10) (by rfl) (by exact c11) rfl (by omega) (by omega) (by omega) ?_
            intro g12 c12 w12 own12 hb12 hk12 hg12 hz12
            have T12 := Lib.hid ((T9.out.swap.push (t := ⟨A10, m10, c10, (placeP k N).flatMap enc2⟩) (by omega) E11.out W11.out.rd (fun a ha => by
              obtain ⟨a', e', h1, _⟩ := W11.out.2 (by have := placeP_pos k N; omega)
              have e2 := ha.symm.trans e'; injection e2 with e2; subst e2; exact h1) own12 hk12 hg12 hz12).swap)
            have KE12 := Lib.hid (show Blk w12 wr.heap.size 49 #[.int .i64 1, .int .i64 0] from (hk12 _ (by omega) (fun ad' h => by have := hLlt ad' h; omega)).trans (KE9.out.keep E11.out))
            have KB12 := Lib.hid (show Blk w12 wB.heap.size 68 #[.slice L k lc] from (hk12 _ (by omega) (fun ad' h => (hLf wB.heap.size (by simp)).2.2 ad' h)).trans (KB9.out.keep E11.out))
            have KN12 := Lib.hid (show Blk w12 w.heap.size 2 #[.int .i64 N] from (hk12 _ (by omega) (fun ad' h => (hLf w.heap.size (by simp)).2.2 ad' h)).trans (KN9.out.keep E11.out))
            have B12 := Lib.hid ((below_chain B9.out (by omega) E11.out).trans hb12)
            have PL12 := Lib.hid (hql.out.push (A := A10) (n := m10) (c := c10) (by omega) (by omega))
            have PC12 := Lib.hid (show ∀ t ∈ rs ++ [(⟨some ⟨wE.heap.size, 0, none⟩, 1, 1, [((1 : Int), (0 : Int))].flatMap enc2⟩ : ItV)], t.n ≤ t.c from fun t ht => by
              rcases List.mem_append.1 ht with ht | ht
              · exact hpc.out t ht
              · rw [List.mem_singleton] at ht; subst ht; exact Nat.le_refl _)
            have hz12' : w9.heap.size < w12.heap.size := by omega
            clear own12 hb12 hk12 hg12 hz12 E11 W11 c11 hz11 E10 W10 hz10 hLlt hLf hql hpc KB9 KE9 KN9
            go_wp2_with fail
            refine hK _ _ ⟨⟨_, HCS.out _ KE12.out KB12.out KN12.out⟩, rfl⟩ ?_
            clear hK K
            repeat (first | (refine Mix.wpMix_read (by rfl) ?_; go_big_quiet_step (fail); refine wpQuiet_nil ?_) | (refine Mix.wpMix_pure (by rfl) ?_; go_big_quiet_step (fail); refine wpQuiet_nil ?_))
            have b0 : w12.cell? ⟨wB.heap.size, 0, none⟩ = some (.slice L k lc) := KB12.out.cell 0
            have b1 := KB12.out.frozen 0
            refine Mix.wpMix_tail (by rfl) (fun K hK => ?_)
            go_wp2_with fail
            refine hK _ _ ?_
            clear hK K
            (refine Mix.wpMix_nil ?_; try simp only [Exit.then])
            have T13 := Lib.hid (T12.out.setF (p := ⟨wB.heap.size, 0, none⟩) (by simp) (.slice (some ⟨g12, 0, none⟩) (k + 1) c12))
            have KB13 := Lib.hid (KB12.out.set_ 0 (.slice (some ⟨g12, 0, none⟩) (k + 1) c12))
            have KN13 := Lib.hid (KN12.out.far (p := ⟨wB.heap.size, 0, none⟩) (by show w.heap.size ≠ wB.heap.size; omega) (.slice (some ⟨g12, 0, none⟩) (k + 1) c12))
            have B13 := Lib.hid (B12.out.setCell (p := ⟨wB.heap.size, 0, none⟩) (by show w.heap.size ≤ wB.heap.size; omega) (.slice (some ⟨g12, 0, none⟩) (k + 1) c12))
            clear b0 b1 Z0 Z1 Z2 Z3 hne
            go_wp2_with fail
            go_roundw
            case rel => exact ⟨k + 1, c9, c12, _, _, _, _, by omega, by go_num, rfl, T13.out, PL9.out, PC12.out, PL12.out, KN13.out, KB13.out, B13.out⟩
            case measure => simp [intOf]; omega
          · have gk : ((k : Int) == 0) = false := by simp; omega
            obtain ⟨w0E, hw0E⟩ : ∃ w0E, wr.alloc (.cells #[.int .i64 0, .int .i64 0] 49) = w0E := ⟨_, rfl⟩
            have K0E := Lib.hid (show Blk w0E wr.heap.size 49 #[.int .i64 0, .int .i64 0] by rw [← hw0E]; exact Blk.new _ _ _)
            have E0E := Lib.hid (show Below wr.heap.size wr w0E by rw [← hw0E]; exact below_size.alloc (Nat.le_refl _) _)
            have hz0E : wr.heap.size < w0E.heap.size := by rw [← hw0E]; simp
            have c0 : w0E.cell? ⟨wr.heap.size, 0, none⟩ = some (.int .i64 0) := K0E.out.cell 0
            have c1 : w0E.cell? ⟨wr.heap.size, 1, none⟩ = some (.int .i64 0) := K0E.out.cell 1
            have f0 := K0E.out.frozen 0; have f1 := K0E.out.frozen 1
            go_wp2_with fail
            obtain ⟨wE, hwE⟩ : ∃ wE, (w0E.setCell ⟨wr.heap.size, 0, none⟩ (.int .i64 0)).setCell ⟨wr.heap.size, 1, none⟩ (.int .i64 0) = wE := ⟨_, rfl⟩
            rw [hwE]
            have EE := Lib.hid (show Below wr.heap.size wr wE by rw [← hwE]; exact (E0E.out.setCell (Nat.le_refl _) _).setCell (Nat.le_refl _) _)
            have hzE : wr.heap.size < wE.heap.size := by rw [← hwE]; simp only [World.size_setCell]; exact hz0E
            have KE := Lib.hid (show Blk wE wr.heap.size 49 #[.int .i64 0, .int .i64 0] by rw [← hwE]; exact (K0E.out.set_ 0 _).set_ 1 _)
            clear K0E E0E hwE hw0E c0 c1 f0 f1 hz0E
            have TE := Lib.hid (hT.out.keep EE.out)
            have KN := Lib.hid (hKN.out.keep EE.out); have KB := Lib.hid (hKB.out.keep EE.out)
            have HST := Lib.hid (show (startP N)[k]? = some [((0 : Int), (0 : Int))] from startP_at hlt (by omega))
            obtain ⟨cs, hcs⟩ : ∃ cs : List (Addr × Value), [((⟨wr.heap.size, 0, none⟩ : Addr), (.int .i64 0 : Value)), (⟨wr.heap.size, 1, none⟩, .int .i64 0), (⟨wB.heap.size, 0, none⟩, .slice L k lc), (⟨w.heap.size, 0, none⟩, .int .i64 N)] = cs := ⟨_, rfl⟩
            have Z0 : ∀ x : ExtC cs, x.w.cell? ⟨wr.heap.size, 0, none⟩ = some (.int .i64 0) := ExtC.cell (by rw [← hcs]; simp)
            have Z1 : ∀ x : ExtC cs, x.w.cell? ⟨wr.heap.size, 1, none⟩ = some (.int .i64 0) := ExtC.cell (by rw [← hcs]; simp)
            have Z2 : ∀ x : ExtC cs, x.w.cell? ⟨wB.heap.size, 0, none⟩ = some (.slice L k lc) := ExtC.cell (by rw [← hcs]; simp)
            have Z3 : ∀ x : ExtC cs, x.w.cell? ⟨w.heap.size, 0, none⟩ = some (.int .i64 N) := ExtC.cell (by rw [← hcs]; simp)
            have HCS := Lib.hid (show ∀ w', Blk w' wr.heap.size 49 #[.int .i64 0, .int .i64 0] → Blk w' wB.heap.size 68 #[.slice L k lc] → Blk w' w.heap.size 2 #[.int .i64 N] → ∀ p ∈ cs, w'.cell? p.1 = some p.2 from fun w' h1 h2 h3 p hp => by
              rw [← hcs] at hp
              simp only [List.mem_cons, List.not_mem_nil, or_false] at hp
              rcases hp with rfl | rfl | rfl | rfl
              · exact h1.cell 0
              · exact h1.cell 1
              · exact h2.cell 0
              · exact h3.cell 0)
            have HCE := Lib.hid (show ∀ w', Below wE.heap.size wE w' → ∀ p ∈ cs, w'.cell? p.1 = some p.2 from fun w' h => HCS.out w' (KE.out.keep h) (KB.out.keep h) (KN.out.keep h))
            have hne : Nonempty (ExtC cs) := ⟨⟨wE, HCE.out _ below_size⟩⟩
            clear hcs
            refine Mix.wp_region_mix [0, 3, 1, 1, 1, 3, 0, 3, 1, 1, 1, 0, 2] (fun w' => ∃ x : ExtC cs, w' = x.w) (by kernel_rfl) (by kernel_rfl) ⟨⟨wE.drew, HCE.out _ (below_drew below_size)⟩, rfl⟩ ?_
            repeat (first | (refine Mix.wpMix_read (by rfl) ?_; go_big_quiet_step (fail); refine wpQuiet_nil ?_) | (refine Mix.wpMix_pure (by rfl) ?_; go_big_quiet_step (fail); refine wpQuiet_nil ?_))
            refine Mix.wpMix_chg (by rfl) (fun K hK => ?_)
            go_wp2_with fail
            refine hK _ _ ⟨⟨_, HCE.out _ (below_drew (below_size.alloc (Nat.le_refl _) _))⟩, rfl⟩ ?_
            clear hK K
            refine Mix.wpMix_chg (by rfl) (fun K hK => ?_)
            go_wp2_with fail
            obtain ⟨wF, hwF⟩ : ∃ wF, ((wE.alloc (.cells #[.int .i64 0, .int .i64 0] 49)).alloc (.cells #[.slice (some ⟨wE.heap.size, 0, none⟩) 1 1] 44)).drew = wF := ⟨_, rfl⟩
            rw [hwF]
            have EF := Lib.hid (show Below wE.heap.size wE wF by rw [← hwF]; exact below_drew ((below_size.alloc (Nat.le_refl _) _).alloc (by simp) _))
            have hzF : wF.heap.size = wE.heap.size + 2 := by rw [← hwF]; simp
            have RF := Lib.hid (show Rd wF (some ⟨wE.heap.size, 0, none⟩) (1 * 2) ([((0 : Int), (0 : Int))].flatMap enc2) by rw [← hwF]; exact ((rd_newE [(0, 0)] _ rfl rfl : Rd2 _ _ 1 _).alloc _).below (below_drew below_size))
            have cF : wF.cell? ⟨wE.heap.size + 1, 0, none⟩ = some (.slice (some ⟨wE.heap.size, 0, none⟩) 1 1) := by
              rw [← hwF]
              have := new_cell (wE.alloc (.cells #[.int .i64 0, .int .i64 0] 49)) #[.slice (some ⟨wE.heap.size, 0, none⟩) 1 1] 44 0
              rw [World.size_alloc] at this
              exact this
            clear hwF
            refine hK _ _ ⟨⟨_, HCE.out _ EF.out⟩, rfl⟩ ?_
            clear hK K
            refine Mix.wpMix_chg (by rfl) (fun K hK => ?_)
            refine wp_app1 (by rfl) _ _ 68 44 (.slice none 0 0) 24 (by rfl) Try.underlying68 info_sE rfl w.heap.size P k pc (rs.map hdV) (by rfl) (by exact TE.out.p.own.keep EF.out) (wE.heap.size + 1) (.slice (some ⟨wE.heap.size, 0, none⟩) 1 1) (by rfl) (by exact cF) rfl (by omega) (by omega) (by omega) ?_
            intro g9 c9 w9 own9 hb9 hk9 hg9 hz9
            have T9 := Lib.hid (TE.out.push (t := ⟨some ⟨wE.heap.size, 0, none⟩, 1, 1, [((0 : Int), (0 : Int))].flatMap enc2⟩) (by omega) EF.out RF.out (fun a ha => by injection ha with ha; subst ha; exact Nat.le_refl _) own9 hk9 hg9 hz9)
            have KE9 := Lib.hid (show Blk w9 wr.heap.size 49 #[.int .i64 0, .int .i64 0] from (hk9 _ (by omega) (fun ad' h => by have := (hT.out.p.own.block h).2.1; omega)).trans (KE.out.keep EF.out))
            have KB9 := Lib.hid (show Blk w9 wB.heap.size 68 #[.slice L k lc] from (hk9 _ (by omega) (fun ad' h => (hT.out.f wB.heap.size (by simp)).2.1 ad' h)).trans (KB.out.keep EF.out))
            have KN9 := Lib.hid (show Blk w9 w.heap.size 2 #[.int .i64 N] from (hk9 _ (by omega) (fun ad' h => (hT.out.f w.heap.size (by simp)).2.1 ad' h)).trans (KN.out.keep EF.out))
            have B9 := Lib.hid ((below_chain (below_chain HB.out hzr EE.out) (by omega) EF.out).trans hb9)
            have HC9 := Lib.hid (show ∀ w', Below w9.heap.size w9 w' → ∀ p ∈ cs, w'.cell? p.1 = some p.2 from fun w' h => HCS.out w' (KE9.out.keep h) (KB9.out.keep h) (KN9.out.keep h))
            have PL9 := Lib.hid (hpl.out.push (A := some ⟨wE.heap.size, 0, none⟩) (n := 1) (c := 1) HST.out (by omega))
            have hLlt : ∀ a, L = some a → a.block < wr.heap.size := fun a h => (hT.out.l.own.block h).2.1
            have hLf := hT.out.f
            have hz9' : wr.heap.size < w9.heap.size := by omega
            clear own9 hb9 hk9 hg9 hz9 EE EF KE KB KN HCE TE RF cF hzF hT hpl HST
            go_wp2_with fail
            refine hK _ _ ⟨⟨_, HC9.out _ below_size⟩, rfl⟩ ?_
            clear hK K
            repeat (first | (refine Mix.wpMix_read (by rfl) ?_; go_big_quiet_step (fail); refine wpQuiet_nil ?_) | (refine Mix.wpMix_pure (by rfl) ?_; go_big_quiet_step (fail); refine wpQuiet_nil ?_))
            refine Mix.wpMix_chg (by rfl) (fun K hK => ?_)
            go_wp2_with fail
            refine (placeOf_c k N w9 (by omega) (by omega)).mono ?_
            rintro e w10 ⟨A10, m10, c10, rfl, hw10, hc10, hb10⟩
            have E10 := Lib.hid hb10; have W10 := Lib.hid hw10
            have hm10 := wr_len2 hw10
            have hz10 := hb10.size
            have hpl10 := placeP_len k N
            clear hw10 hb10
            go_wp2_with fail
            refine hK _ _ ⟨⟨_, HC9.out _ E10.out⟩, rfl⟩ ?_
            clear hK K
            refine Mix.wpMix_chg (by rfl) (fun K hK => ?_)
            go_wp2_with fail
            obtain ⟨w11, hw11⟩ : ∃ w11, w10.alloc (.cells #[.slice A10 m10 c10] 44) = w11 := ⟨_, rfl⟩
            rw [hw11]
            have E11 := Lib.hid (show Below w9.heap.size w9 w11 by rw [← hw11]; exact E10.out.alloc hz10 _)
            have W11 := Lib.hid (show Wr w11 w9.heap.size w10.heap.size A10 (m10 * 2) ((placeP k N).flatMap enc2) by rw [← hw11]; exact W10.out.alloc _)
            have c11 : w11.cell? ⟨w10.heap.size, 0, none⟩ = some (.slice A10 m10 c10) := by rw [← hw11]; exact new_cell _ _ _ 0
            have hz11 : w11.heap.size = w10.heap.size + 1 := by rw [← hw11]; simp
            clear hw11
            refine hK _ _ ⟨⟨_, HC9.out _ E11.out⟩, rfl⟩ ?_
            clear hK K
            refine Mix.wpMix_chg (by rfl) (fun K hK => ?_)
            refine wp_app1 (by rfl) _ _ 68 44 (.slice none 0 0) 24 (by rfl) Try.underlying68 info_sE rfl w.heap.size L k lc (qs.map hdV) (by rfl) (by exact T9.out.l.own.keep E11.out) w10.heap.size (.slice A10 m10 c10) (by rfl) (by exact c11) rfl (by omega) (by omega) (by omega) ?_
            intro g12 c12 w12 own12 hb12 hk12 hg12 hz12
            have T12 := Lib.hid ((T9.out.swap.push (t := ⟨A10, m10, c10, (placeP k N).flatMap enc2⟩) (by omega) E11.out W11.out.rd (fun a ha => by
              obtain ⟨a', e', h1, _⟩ := W11.out.2 (by have := placeP_pos k N; omega)
              have e2 := ha.symm.trans e'; injection e2 with e2; subst e2; exact h1) own12 hk12 hg12 hz12).swap)
            have KE12 := Lib.hid (show Blk w12 wr.heap.size 49 #[.int .i64 0, .int .i64 0] from (hk12 _ (by omega) (fun ad' h => by have := hLlt ad' h; omega)).trans (KE9.out.keep E11.out))
            have KB12 := Lib.hid (show Blk w12 wB.heap.size 68 #[.slice L k lc] from (hk12 _ (by omega) (fun ad' h => (hLf wB.heap.size (by simp)).2.2 ad' h)).trans (KB9.out.keep E11.out))
            have KN12 := Lib.hid (show Blk w12 w.heap.size 2 #[.int .i64 N] from (hk12 _ (by omega) (fun ad' h => (hLf w.heap.size (by simp)).2.2 ad' h)).trans (KN9.out.keep E11.out))
            have B12 := Lib.hid ((below_chain B9.out (by omega) E11.out).trans hb12)
            have PL12 := Lib.hid (hql.out.push (A := A10) (n := m10) (c := c10) (by omega) (by omega))
            have PC12 := Lib.hid (show ∀ t ∈ rs ++ [(⟨some ⟨wE.heap.size, 0, none⟩, 1, 1, [((0 : Int), (0 : Int))].flatMap enc2⟩ : ItV)], t.n ≤ t.c from fun t ht => by
              rcases List.mem_append.1 ht with ht | ht
              · exact hpc.out t ht
              · rw [List.mem_singleton] at ht; subst ht; exact Nat.le_refl _)
            have hz12' : w9.heap.size < w12.heap.size := by omega
            clear own12 hb12 hk12 hg12 hz12 E11 W11 c11 hz11 E10 W10 hz10 hLlt hLf hql hpc KB9 KE9 KN9
            go_wp2_with fail
            refine hK _ _ ⟨⟨_, HCS.out _ KE12.out KB12.out KN12.out⟩, rfl⟩ ?_
            clear hK K
            repeat (first | (refine Mix.wpMix_read (by rfl) ?_; go_big_quiet_step (fail); refine wpQuiet_nil ?_) | (refine Mix.wpMix_pure (by rfl) ?_; go_big_quiet_step (fail); refine wpQuiet_nil ?_))
            have b0 : w12.cell? ⟨wB.heap.size, 0, none⟩ = some (.slice L k lc) := KB12.out.cell 0
            have b1 := KB12.out.frozen 0
            refine Mix.wpMix_tail (by rfl) (fun K hK => ?_)
            go_wp2_with fail
            refine hK _ _ ?_
            clear hK K
            (refine Mix.wpMix_nil ?_; try simp only [Exit.then])
            have T13 := Lib.hid (T12.out.setF (p := ⟨wB.heap.size, 0, none⟩) (by simp) (.slice (some ⟨g12, 0, none⟩) (k + 1) c12))
            have KB13 := Lib.hid (KB12.out.set_ 0 (.slice (some ⟨g12, 0, none⟩) (k + 1) c12))
            have KN13 := Lib.hid (KN12.out.far (p := ⟨wB.heap.size, 0, none⟩) (by show w.heap.size ≠ wB.heap.size; omega) (.slice (some ⟨g12, 0, none⟩) (k + 1) c12))
            have B13 := Lib.hid (B12.out.setCell (p := ⟨wB.heap.size, 0, none⟩) (by show w.heap.size ≤ wB.heap.size; omega) (.slice (some ⟨g12, 0, none⟩) (k + 1) c12))
            clear b0 b1 Z0 Z1 Z2 Z3 hne
            go_wp2_with fail
            go_roundw
            case rel => exact ⟨k + 1, c9, c12, _, _, _, _, by omega, by go_num, rfl, T13.out, PL9.out, PC12.out, PL12.out, KN13.out, KB13.out, B13.out⟩
            case measure => simp [intOf]; omega
        · obtain rfl : k = N := by omega
          have HFL := Lib.hid (show rs.map ItV.vs = (startP k).map (·.flatMap enc2) by have := hpl.out.1; rwa [List.take_of_length_le (by rw [startP_len]; exact Nat.le_refl _)] at this)
          have hpcap : k ≤ pc := hT.out.p.own.cap
          go_wp2_with fail
          refine (packed_c 10 P k pc rs (startP k) wr (hT.out.p.rdV hpl.out.one) HFL.out (by omega) (by omega) (by omega) hpcap hpl.out.2 hpc.out).mono ?_
          rintro e w5 ⟨A5, m5, c5, rfl, hr5, hc5, hw5, hb5⟩
          have E5 := Lib.hid (below_chain HB.out hzr hb5); have W5 := Lib.hid (hw5 hN2)
          have hm5 := hr5.len
          have hz5 := E5.out.size
          have T5 := Lib.hid (hT.out.keep hb5); have KN5 := Lib.hid (hKN.out.keep hb5); have KB5 := Lib.hid (hKB.out.keep hb5)
          have hz5' := hb5.size
          clear hw5 hb5 hr5
          go_wp2_with (go_at_call 67; refine (setTo_c 0 A5 m5 c5 w5).mono ?_; rintro e w6 ⟨rfl, hb6⟩)
          have E6 := Lib.hid (below_chain E5.out hz5 hb6)
          have hz6 := E6.out.size
          have hp5 := packedP_len (startP k)
          have OO := Lib.hid (OwnS.one (w := w6) (e := 46) (t := ⟨0, 0, 0, A5, m5, c5, packedP (startP k)⟩) hz6 ((W5.out.below hb6).wider hzr hb6.size))
          obtain ⟨w7, hw7⟩ : ∃ w7, w6.alloc (.cells #[i64 0, i64 0, i64 0, .slice A5 m5 c5] 46) = w7 := ⟨_, rfl⟩
          have E67 := Lib.hid (show Below w6.heap.size w6 w7 by rw [← hw7]; exact below_size.alloc (Nat.le_refl _) _)
          have hz67 := E67.out.size
          have hz56 := hb6.size
          have BO := Lib.hid (below_chain E6.out hz6 E67.out)
          have T7 := Lib.hid ((T5.out.keep hb6).keep E67.out); have KN7 := Lib.hid ((KN5.out.keep hb6).keep E67.out); have KB7 := Lib.hid ((KB5.out.keep hb6).keep E67.out)
          rw [hw7] at OO ⊢
          obtain ⟨X0, hX0⟩ : ∃ X0, packedP (startP k) = X0 := ⟨_, rfl⟩
          rw [hX0] at OO hm5 hp5
          have HX0 := Lib.hid hX0
          have hm500 : m5 ≤ 1000000 := by
            have h1 := startP_len k
            have h2 : sumL (startP k) ≤ 10 := by
              unfold sumL startP
              rw [List.map_map]
              have : ∀ l : List Nat, (l.map (List.length ∘ fun j => [((if j = 0 then (1 : Int) else 0), (0 : Int))])).sum = l.length := fun l => by induction l with | nil => rfl | cons x l ih => simp [ih]; omega
              rw [this, List.length_range]; omega
            omega
          clear hX0 hb6 E5 T5 KN5 KB5 hT hKN hKB W5
          have hn0 : 0 < n := by
            rcases Nat.eq_zero_or_pos n with h0 | h0
            · have h1 := HDL.out
              rw [h0] at h1
              have h2 := HNT.out
              rw [← HT.out, List.length_eq_zero_iff.1 h1] at h2
              simp [topW, varsW, topV_nil] at h2; omega
            · exact h0
          obtain ⟨la, rfl⟩ : ∃ la, L = some la := by
            obtain ⟨_, hc⟩ := T7.out.l.own.wrK.rd
            obtain ⟨ad, h, _⟩ := hc (by omega)
            exact ⟨ad, h⟩
          have PA := Lib.hid (show PlacesAt w7 k (some la) qs from ⟨T7.out.l.rdV (fun t ht u hu => by
              have h1 : t.vs ∈ qs.map ItV.vs := List.mem_map_of_mem ht
              rw [hql.out.1] at h1
              obtain ⟨j, _, hj⟩ := List.mem_map.1 h1
              rw [← hj] at hu
              exact one_pairs _ u hu), hql.out.1, hql.out.2⟩)
          have kN7 := Lib.hid (show w7.cell? ⟨w.heap.size, 0, none⟩ = some (.int .i64 k) from KN7.out.cell 0)
          have kB7 := Lib.hid (show w7.cell? ⟨wB.heap.size, 0, none⟩ = some (.slice (some la) k lc) from KB7.out.cell 0)
          have R7 := Lib.hid (H.out.below BO.out)
          have HTN := Lib.hid (show ∀ v ∈ varsW D, v + 1 ≤ (k : Int) from by
            have h1 := HNT.out
            rw [← HT.out] at h1
            exact (topV_le (vs := varsW D) (a := 0) (b := k)).1 (by rw [h1]; exact Int.le_refl _) |>.2)
          have HM := Lib.hid (show ∀ t ∈ ps, ∀ wz, Below w7.heap.size w7 wz → Calls Try.prog 69 #[.agg #[i64 t.kd, i64 t.vr, i64 t.ln, .slice t.A t.n t.c], .pointer (some ⟨w.heap.size, 0, none⟩), .pointer (some ⟨wB.heap.size, 0, none⟩)] wz (CmdOut (oneC k (datC t)) wz) by
            intro t ht wz hbz
            have hd : datC t ∈ D := by rw [← HD.out]; exact List.mem_map_of_mem ht
            have hrd : Rd2 wz t.A t.n t.xs := (R7.out.below hbz).tail (bodyC t) (List.mem_map_of_mem ht)
            obtain ⟨e1, _, e3⟩ := HV2.out (datC t) hd
            have hez := HVZ.out (datC t) hd
            have hvb := inB_t e3
            have hvv : t.kd = 0 → t.vr + 1 ≤ (k : Int) := fun h0 => HTN.out t.vr (by
              refine List.mem_flatMap.2 ⟨datC t, hd, ?_⟩
              simp [varsW1, datC, h0])
            have hPz := PA.out.below hbz
            have hNz := keepc hbz kN7.out
            have hBz := keepc hbz kB7.out
            obtain ⟨kd, vr, ln, xA, xn, xc, xs⟩ := t
            simp only [datC] at hvb hez hvv e1 hrd ⊢
            obtain ⟨v, rfl⟩ : ∃ v : Nat, vr = v := ⟨vr.toNat, by omega⟩
            refine oneVariable1_c k w.heap.size wB.heap.size la lc qs kd v ln xA xn xc xs wz hNz hBz hPz ⟨hN2, hN6⟩ hrd e1 (by omega) ?_
            rcases hez with h | h
            · have := hvv h; omega
            · omega)
          go_wp2_with (first
            | (go_at_call 35; refine (mappedO_c (.pointer (some ⟨w.heap.size, 0, none⟩)) (.pointer (some ⟨wB.heap.size, 0, none⟩)) (oneC k) A n c ps D w7 R7.out (by omega) HD.out HM.out).mono ?_; rintro e w8 ⟨A8, c8, js, rfl, hO8, hj8, hi8, hb8⟩; have O8 := Lib.hid hO8; have J8 := Lib.hid hj8; have I8 := Lib.hid hi8; have E8 := Lib.hid hb8; have hz8 := hb8.size; clear hO8 hj8 hi8 hb8)
            | (at_builtin; refine wp_appCmds (by rfl) _ _ (by rfl) w.heap.size (some ⟨w6.heap.size, 0, none⟩) 1 1 [⟨0, 0, 0, A5, m5, c5, X0⟩] (by rfl) w7 OO.out (by omega) (by exact E8.out) A8 n c8 js (by rfl) O8.out hn0 (by omega) ?_; intro A9 c9 w9 own9 hb9 hz9; have O9 := Lib.hid own9; have B9 := Lib.hid ((below_chain BO.out (by omega) E8.out).trans hb9); obtain ⟨wq, hwq⟩ : ∃ wq, w9.alloc (.cells #[.int .i64 3, .int .i64 0, .int .i64 1, .int .i64 0] 49) = wq := ⟨_, rfl⟩; have Eq' := Lib.hid (show Below w9.heap.size w9 wq by rw [← hwq]; exact below_size.alloc (Nat.le_refl _) _); have hzq := Eq'.out.size; have Wq := Lib.hid (show Wr wq w9.heap.size wq.heap.size (some ⟨w9.heap.size, 0, none⟩) (2 * 2) ([((3 : Int), (0 : Int)), (1, 0)].flatMap enc2) by rw [← hwq]; exact (Blk.new _ _ _).wr (Nat.le_refl _) (by simp) rfl (by simp)); clear own9 hb9)
            | (go_at_call 67; refine (setTo_c 0 (some ⟨w9.heap.size, 0, none⟩) 2 2 wq).mono ?_; rintro e w10 ⟨rfl, hb10⟩; have E10 := Lib.hid (below_chain Eq'.out hzq hb10); have W10 := Lib.hid ((Wq.out.below hb10).wider (Nat.le_refl _) hb10.size))
            | (at_builtin; refine wp_appCmd (by rfl) _ _ (by rfl) w.heap.size A9 (1 + n) c9 ([⟨0, 0, 0, A5, m5, c5, X0⟩] ++ js) (by rfl) w9 O9.out (by omega) (by exact E10.out.alloc E10.out.size _) w10.heap.size ⟨0, 0, 0, some ⟨w9.heap.size, 0, none⟩, 2, 2, [(3, 0), (1, 0)]⟩ (by rfl) (by exact Blk.new _ _ _) (by exact (W10.out.alloc _).wider (Nat.le_refl _) (by simp)) (by omega) ?_; intro A11 c11 w11 own11 hb11 hz11 hg11 hk11))
          have O11 := Lib.hid own11
          have B11 := Lib.hid ((((B9.out.trans (E10.out.mono (by omega))).alloc (by have := E10.out.size; omega) _)).trans hb11)
          have hcap11 := own11.own.cap
          have I11 := Lib.hid (show ∀ t ∈ [(⟨0, 0, 0, A5, m5, c5, X0⟩ : Ct)] ++ js ++ [(⟨0, 0, 0, some ⟨w9.heap.size, 0, none⟩, 2, 2, [(3, 0), (1, 0)]⟩ : Ct)], t.n ≤ 1000000 from fun t ht => by
            simp only [List.mem_append, List.mem_singleton] at ht
            rcases ht with (rfl | ht) | rfl
            · exact hm500
            · exact I8.out t ht
            · show 2 ≤ 1000000; omega)
          have D11 := Lib.hid (show ([(⟨0, 0, 0, A5, m5, c5, X0⟩ : Ct)] ++ js ++ [(⟨0, 0, 0, some ⟨w9.heap.size, 0, none⟩, 2, 2, [(3, 0), (1, 0)]⟩ : Ct)]).map datC = oneD D by
            rw [HO.out, oneP, List.map_append, List.map_append, J8.out, HX0.out]; rfl)
          obtain ⟨q, hq⟩ : ∃ q, validW (oneD D) = q := ⟨_, rfl⟩
          clear own11 hb11 hk11 hg11
          refine (validWhile_c A11 (1 + n + 1) c11 _ q w11 O11.out.wrS.rd hcap11 (by omega) (fun t ht => Nat.le_trans (I11.out t ht) (by omega)) (by rw [D11.out]; exact hq)).mono ?_
          rintro e w12 ⟨rfl, hb12⟩
          have B12 := Lib.hid (below_chain B11.out (by have := B11.out.size; omega) hb12)
          have O12 := Lib.hid (O11.out.keep hb12)
          have HQ := Lib.hid hq
          clear hq hb12
          cases q
          · have HRR := Lib.hid (show (([], 5) : List Cmd × Int) = R by rw [← HR.out, HQ.out]; rfl)
            go_wp2_with fail
            go_ret2
            rw [← HRR.out]
            exact CmOut2.bad 5 B12.out
          · have HRR := Lib.hid (show (oneD D, (0 : Int)) = R by rw [← HR.out, HQ.out]; rfl)
            go_wp2_with fail
            go_ret2
            rw [← HRR.out]
            exact CmOut2.good O12.out (by omega) I11.out D11.out B12.out

theorem CmOut2.wider {R : List Cmd × Int} {w0 w : World} {e : Ending} {w' : World} (h : CmOut2 R w e w') (hb : Below w0.heap.size w0 w) : CmOut2 R w0 e w' := by
  obtain ⟨A, n, c, ps, he, h1, h2, h3⟩ := h
  exact ⟨A, n, c, ps, he, h1.wider hb.size (Nat.le_refl _), h2, below_chain hb hb.size h3⟩
set_option maxHeartbeats 4000000 in
set_option maxRecDepth 100000 in
theorem iOneVariable_c (A : Option Addr) (n c : Nat) (ps : List Ct) {D : List Cmd} (w : World) (h : RdS w (sgCS A n ps)) (hn : n ≤ 1000000000) (hnc : n ≤ c) (hi : ∀ t ∈ ps, t.n ≤ 1000000000) (_hcp : ∀ t ∈ ps, t.n ≤ t.c) (hw0 : ps.map datC = D) :
    Calls Try.prog 23 #[.slice A n c] w (CmOut2 (ovR D) w) := by
  obtain ⟨q, hq⟩ : ∃ q, validW D = q := ⟨_, rfl⟩
  obtain ⟨R, hR⟩ : ∃ R, ovR D = R := ⟨_, rfl⟩
  rw [hR]
  have HQ := Lib.hid (show validW (ps.map datC) = q by rw [hw0]; exact hq)
  have HV := Lib.hid (show validW D = q from hq)
  have HR := Lib.hid hR
  have HD := Lib.hid hw0
  have H := Lib.hid h; have HI := Lib.hid hi; clear h hi hw0 hq hR
  go_enter Try.func23, Try.ntmps23
  go_wp2_with fail
  refine (validWhile_c A n c ps q w H.out hnc hn HI.out HQ.out).mono ?_
  rintro e w1 ⟨rfl, hb1⟩
  have B1 := Lib.hid hb1
  clear hb1
  cases q
  · have HG := Lib.hid (show (([], 1) : List Cmd × Int) = R by rw [← HR.out, ovR, HV.out]; rfl)
    go_wp2_with fail
    go_ret2
    rw [← HG.out]
    exact CmOut2.bad 1 B1.out
  have HG := Lib.hid (show (if validW (oneD D) = true then (oneD D, 0) else (([], 5) : List Cmd × Int)) = R by rw [← HR.out, ovR, HV.out]; rfl)
  go_wp2_with fail
  refine (oneVariable_c A n c ps D w1 (H.out.below B1.out) HD.out HV.out).mono ?_
  rw [HG.out]
  intro e w2 h2
  obtain ⟨A2, n2, c2, js, rfl, hw2, h2', hb2⟩ := h2.wider B1.out
  have HH := Lib.hid (show CmOut2 R w (.returned (.tuple #[.slice A2 n2 c2, .int .i64 R.2])) w2 from ⟨A2, n2, c2, js, rfl, hw2, h2', hb2⟩)
  clear h2 hw2 h2' hb2
  go_wp2_with fail
  go_ret2
  exact HH.out
set_option maxHeartbeats 4000000 in
set_option maxRecDepth 100000 in
theorem sOneVariable_c (A : Option Addr) (n c : Nat) (ps : List Ct) {D : List Cmd} (w : World) (h : RdS w (sgCS A n ps)) (hn : n ≤ 1000000000) (hi : ∀ t ∈ ps, t.n ≤ 1000000000) (_hcp : ∀ t ∈ ps, t.n ≤ t.c) (hw0 : ps.map datC = D) :
    Calls Try.prog 22 #[.slice A n c] w (CmOut2 (ovR D) w) := by
  obtain ⟨q, hq⟩ : ∃ q, validW D = q := ⟨_, rfl⟩
  obtain ⟨R, hR⟩ : ∃ R, ovR D = R := ⟨_, rfl⟩
  rw [hR]
  have HQ := Lib.hid (show validW (ps.map datC) = q by rw [hw0]; exact hq)
  have HV := Lib.hid (show validW D = q from hq)
  have HR := Lib.hid hR
  have HD := Lib.hid hw0
  have H := Lib.hid h; have HI := Lib.hid hi; clear h hi hw0 hq hR
  go_enter Try.func22, Try.ntmps22
  go_wp2_with fail
  refine (l22Is_c A n c ps q w H.out hn HI.out HQ.out).mono ?_
  rintro e w1 ⟨rfl, hb1⟩
  have B1 := Lib.hid hb1
  have hz1 := B1.out.size
  clear hb1
  cases q
  · have HG := Lib.hid (show (([], 1) : List Cmd × Int) = R by rw [← HR.out, ovR, HV.out]; rfl)
    go_wp2_with fail
    go_ret2
    rw [← HG.out]
    exact CmOut2.bad 1 B1.out
  go_wp2_with fail
  refine (l23One_c A n c ps D w1 (H.out.below B1.out) HD.out HV.out).mono ?_
  rintro e w2 ⟨A2, n2, c2, js, rfl, hO, hj, hj1, hn2, hb2⟩
  have O2 := Lib.hid (hO.widen' hz1); have J2 := Lib.hid hj; have I2 := Lib.hid hj1; have B2 := Lib.hid (below_chain B1.out hz1 hb2)
  have hz2 := B2.out.size
  obtain ⟨q, hq⟩ : ∃ q, validW (oneD D) = q := ⟨_, rfl⟩
  have HQ2 := Lib.hid hq
  have HQJ := Lib.hid (show validW (js.map datC) = q by rw [hj]; exact hq)
  clear hO hj hj1 hb2 hq
  go_wp2_with fail
  refine (l22Is_c A2 n2 c2 js q w2 O2.out.wrS.rd (by omega) (fun t ht => Nat.le_trans (I2.out t ht) (by omega)) HQJ.out).mono ?_
  rintro e w3 ⟨rfl, hb3⟩
  have B3 := Lib.hid (below_chain B2.out hz2 hb3)
  have O3 := Lib.hid (O2.out.keep hb3)
  clear hb3
  cases q
  · have HG := Lib.hid (show (([], 5) : List Cmd × Int) = R by rw [← HR.out, ovR, HV.out, HQ2.out]; rfl)
    go_wp2_with fail
    go_ret2
    rw [← HG.out]
    exact CmOut2.bad 5 B3.out
  · have HG := Lib.hid (show (oneD D, (0 : Int)) = R by rw [← HR.out, ovR, HV.out, HQ2.out]; rfl)
    go_wp2_with fail
    go_ret2
    rw [← HG.out]
    exact CmOut2.good O3.out (by omega) I2.out J2.out B3.out
end Go.Proofs.Ytecpbgmcednpoaa
