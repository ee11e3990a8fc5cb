/-
  Contracts of chapter 5: valid machines of the reference.
-/
import Derived.Test.YtdendllginlidaaGreatDoorC05
namespace Go.Proofs.YtdendllginlidaaGreatDoor
open Go.RowKit

theorem boxes3 (w : World) (a b c : Array Value) (ta tb tc : TypeId) : Blk (((w.alloc (.cells a ta)).alloc (.cells b tb)).alloc (.cells c tc)) w.heap.size ta a ∧ Blk (((w.alloc (.cells a ta)).alloc (.cells b tb)).alloc (.cells c tc)) (w.heap.size + 1) tb b ∧ Blk (((w.alloc (.cells a ta)).alloc (.cells b tb)).alloc (.cells c tc)) (w.heap.size + 1 + 1) tc c := by
  refine ⟨((Blk.new w _ _).alloc _).alloc _, ?_, ?_⟩
  · have := (Blk.new (w.alloc (.cells a ta)) tb b).alloc (.cells c tc)
    rw [World.size_alloc] at this; exact this
  · have := Blk.new ((w.alloc (.cells a ta)).alloc (.cells b tb)) tc c
    rw [World.size_alloc, World.size_alloc] at this; exact this
/-- a machine behind a pointer -/
structure MachP (w : World) (g : Nat) (sy st : Int) (A : Option Addr) (n cp : Nat) (rs : List Rule3) : Prop where
  c0 : w.cell? ⟨g, 0, none⟩ = some (i64 sy)
  c1 : w.cell? ⟨g, 1, none⟩ = some (i64 st)
  c2 : w.cell? ⟨g, 2, none⟩ = some (.slice A n cp)
  rd : Rd3 w A n rs
theorem MachP.below {w w' : World} {g : Nat} {sy st : Int} {A : Option Addr} {n cp : Nat} {rs : List Rule3} (h : MachP w g sy st A n cp rs) (hb : Below w.heap.size w w') : MachP w' g sy st A n cp rs :=
  ⟨keepc hb h.c0, keepc hb h.c1, keepc hb h.c2, h.rd.below hb⟩

set_option maxHeartbeats 2000000 in
set_option maxRecDepth 100000 in
theorem l05Is_c (g : Nat) (sy st : Int) (A : Option Addr) (n cp : Nat) (rs : List Rule3) (q : Bool) (w : World) (h : MachP w g sy st A n cp rs) (hn : n ≤ 1000000000) (hq : machB sy st rs = q) :
    Calls Tryz.prog 20 #[.pointer (some ⟨g, 0, none⟩)] w fun e w' => e = .returned (.bool q) ∧ Below w.heap.size w w' := by
  have HL := Lib.hid h.rd.len
  have h0 := h.c0; have h1 := h.c1; have h2 := h.c2
  have H := Lib.hid h; have HQ := Lib.hid hq; clear h hq
  cases hb1 : inB sy 2 6
  · have HF := Lib.hid (show false = q by rw [← HQ.out]; simp [machB, hb1])
    go_enter Tryz.func20, Tryz.ntmps20
    go_wp2_with fail
    go_quiet (first | (go_at_call 48; first | exact quiet_left (l00In_b _ _ _ _ (by assumption) _) | exact quiet_add_left (l00In_b _ _ _ _ (by assumption) _)))
    go_wp2_with fail
    go_ret
    exact ⟨by rw [← HF.out]; rfl, below_drewN below_size _⟩
  cases hb2 : inB st 1 1000
  · have HF := Lib.hid (show false = q by rw [← HQ.out]; simp [machB, hb2])
    go_enter Tryz.func20, Tryz.ntmps20
    go_wp2_with fail
    go_quiet (first | (go_at_call 48; first | exact quiet_left (l00In_b _ _ _ _ (by assumption) _) | exact quiet_add_left (l00In_b _ _ _ _ (by assumption) _)))
    go_wp2_with fail
    go_ret
    exact ⟨by rw [← HF.out]; rfl, below_drewN below_size _⟩
  have hs1 := inB_t hb1
  have hs2 := inB_t hb2
  have hm1 := (mul_bd2 hs1 hs2).1
  have hm2 := (mul_bd2 hs1 hs2).2.1
  have HK := Lib.hid (show machB sy st rs = (((n : Int) == sy * st) && rs.all (ruleB sy st)) by rw [machB, hb1, hb2, HL.out]; simp)
  by_cases hb3 : (n : Int) = sy * st
  · have hb3' : ((n : Int) != sy * st) = false := by simpa using hb3
    have HF := Lib.hid (show rs.all (ruleB sy st) = q by rw [← HQ.out, HK.out]; simp [hb3])
    clear hb3 HK HQ
    go_enter Tryz.func20, Tryz.ntmps20
    go_wp2_with fail
    go_quiet (first | (go_at_call 48; first | exact quiet_left (l00In_b _ _ _ _ (by assumption) _) | exact quiet_add_left (l00In_b _ _ _ _ (by assumption) _)))
    go_wp2_with fail
    clear hb3' h0 h1 h2
    go_loopw [3] (fun iv wr => ∃ k : Nat, k ≤ n ∧ iv = .int .i64 k ∧ Hid (rs.all (ruleB sy st) = (rs.drop k).all (ruleB sy st)) ∧ Below w.heap.size w wr) (fun iv _ => n - (intOf iv).toNat)
    case atStart => exact ⟨0, by omega, rfl, rfl, below_drewN below_size _⟩
    case round =>
      obtain ⟨k, hk, rfl, hr, hb⟩ := hrel
      have HB := Lib.hid hb
      have hP := H.out.below hb
      have h0 := hP.c0; have h1 := hP.c1; have h2 := hP.c2
      by_cases hlt : k < n
      · obtain ⟨ad, x, rfl, hab, hx, hc0, hc1, hc2⟩ := hP.rd.at_ hlt
        have HS := Lib.hid (show rs.all (ruleB sy st) = (ruleB sy st x && (rs.drop (k + 1)).all (ruleB sy st)) by rw [hr.out, drop_at hx, List.all_cons])
        obtain ⟨p, r, s⟩ := x
        clear hx hb hr hP
        have y0 := Ext.cell h0; have y1 := Ext.cell h1; have y2 := Ext.cell h2; have z0 := Ext.cell hc0; have z1 := Ext.cell hc1; have z2 := Ext.cell hc2
        obtain ⟨o, ho⟩ : ∃ o, ruleB sy st (p, r, s) = o := ⟨_, rfl⟩
        rw [ho] at HS
        cases o
        · have HS2 := Lib.hid (show false = q by rw [← HF.out, HS.out]; simp)
          clear HS
          go_wp2_with fail
          refine Mix.wp_region_mix [0, 0, 0, 3, 0, 0, 3, 0, 0, 0, 3, 0, 0, 0, 3, 1, 0] (fun w' => ∃ x : Ext wr, w' = x.w) (by kernel_rfl) (by kernel_rfl) (InExt.drew _) ?_
          repeat (first | (refine Mix.wpMix_read (by rfl) ?_; go_big_quiet_step (fail); refine wpQuiet_nil ?_) | (refine Mix.wpMix_pure (by rfl) ?_; go_big_quiet_step (fail); refine wpQuiet_nil ?_))
          refine Mix.wpMix_chg (by rfl) (fun K hK => ?_)
          go_wp2_with fail
          refine (l05Rule_c _ _ _ _ _ false _ (by omega) (by omega) ho).mono ?_
          rintro e w1 ⟨rfl, hb⟩
          have em := below_of_drew hb
          go_wp2_with fail
          refine hK _ _ ⟨⟨_, em⟩, rfl⟩ ?_
          clear hK K
          repeat (first | (refine Mix.wpMix_read (by rfl) ?_; go_big_quiet_step (fail); refine wpQuiet_nil ?_) | (refine Mix.wpMix_pure (by rfl) ?_; go_big_quiet_step (fail); refine wpQuiet_nil ?_))
          (refine Mix.wpMix_nil ?_; try simp only [Exit.then])
          go_wp2_with fail
          go_ret
          exact ⟨by rw [← HS2.out]; rfl, below_chain HB.out HB.out.size em⟩
        · have HS2 := Lib.hid (show rs.all (ruleB sy st) = (rs.drop (k + 1)).all (ruleB sy st) by rw [HS.out]; simp)
          clear HS
          go_wp2_with fail
          refine Mix.wp_region_mix [0, 0, 0, 3, 0, 0, 3, 0, 0, 0, 3, 0, 0, 0, 3, 1, 0] (fun w' => ∃ x : Ext wr, w' = x.w) (by kernel_rfl) (by kernel_rfl) (InExt.drew _) ?_
          repeat (first | (refine Mix.wpMix_read (by rfl) ?_; go_big_quiet_step (fail); refine wpQuiet_nil ?_) | (refine Mix.wpMix_pure (by rfl) ?_; go_big_quiet_step (fail); refine wpQuiet_nil ?_))
          refine Mix.wpMix_chg (by rfl) (fun K hK => ?_)
          go_wp2_with fail
          refine (l05Rule_c _ _ _ _ _ true _ (by omega) (by omega) ho).mono ?_
          rintro e w1 ⟨rfl, hb⟩
          have em := below_of_drew hb
          go_wp2_with fail
          refine hK _ _ ⟨⟨_, em⟩, rfl⟩ ?_
          clear hK K
          repeat (first | (refine Mix.wpMix_read (by rfl) ?_; go_big_quiet_step (fail); refine wpQuiet_nil ?_) | (refine Mix.wpMix_pure (by rfl) ?_; go_big_quiet_step (fail); refine wpQuiet_nil ?_))
          (refine Mix.wpMix_nil ?_; try simp only [Exit.then])
          go_wp2_with fail
          go_roundw
          case rel => exact ⟨k + 1, by omega, by go_num, HS2.out, below_chain HB.out HB.out.size em⟩
          case measure => simp [intOf]; omega
      · have HS := Lib.hid (show true = q by rw [← HF.out, hr.out, List.drop_eq_nil_of_le (by rw [HL.out]; omega)]; rfl)
        clear hb hr hP
        go_wp2_with fail
        go_ret
        exact ⟨by rw [← HS.out]; rfl, HB.out⟩
  · have hb3' : ((n : Int) != sy * st) = true := by simpa using hb3
    have HF := Lib.hid (show false = q by rw [← HQ.out, HK.out]; simp [hb3])
    clear hb3 HK HQ
    go_enter Tryz.func20, Tryz.ntmps20
    go_wp2_with fail
    go_quiet (first | (go_at_call 48; first | exact quiet_left (l00In_b _ _ _ _ (by assumption) _) | exact quiet_add_left (l00In_b _ _ _ _ (by assumption) _)))
    go_wp2_with fail
    go_ret
    exact ⟨by rw [← HF.out]; rfl, below_drewN below_size _⟩
end Go.Proofs.YtdendllginlidaaGreatDoor
