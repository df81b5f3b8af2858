/-
  (*Disk).call in all its ways: of nil, down, a call that goes on, a call at which the disk goes down.
-/
import Derived.Test.YtfmdloomjnmpgaaSt
import Derived.BigQuiet
import Derived.Deep.QuietTactic
import Derived.Deep.RegionLaw
import Derived.Deep.RegionHeld3
import Derived.Deep.DeepCutAuto
import Derived.Deep.CutBlock
import Derived.Deep.RegionWith
namespace Go.Proofs.Ytfmdloomjnmpgaa
open Go.RowKit

set_option maxHeartbeats 400000 in
theorem call_nil (A : Option Addr) (n c : Nat) (w : World) :
    Calls Try.prog 25 #[.pointer none, .slice A n c] w fun e w' => e = .returned (.int .i64 1) ∧ w' = w := by
  go_enter Try.func25, Try.ntmps25
  go_wp2_with fail
  go_ret
  exact ⟨rfl, rfl⟩

set_option maxHeartbeats 400000 in
theorem call_down (A : Option Addr) (n c g base : Nat) (s : St) (w : World) (h : DiskAt w base g s) (hd : s.down = true) :
    Calls Try.prog 25 #[.pointer (some ⟨g, 0, none⟩), .slice A n c] w fun e w' => e = .returned (.int .i64 9) ∧ w' = w := by
  obtain ⟨vb, vf, hb, -, -, -, -⟩ := h
  have c5 := hb.cell 5
  rw [hd] at c5
  clear hb hd
  simp at c5
  go_enter Try.func25, Try.ntmps25
  go_wp2_with fail
  go_ret
  exact ⟨rfl, rfl⟩


theorem hitInt_none {fs : List (Int × Int)} {n : Int} (h : fs[hitAt fs n]? = none) : hitInt fs n = -1 := by
  have : ¬ hitAt fs n < fs.length := by have := List.getElem?_eq_none_iff.1 h; omega
  simp [hitInt, this]
theorem hitInt_some {fs : List (Int × Int)} {n : Int} {f : Int × Int} (h : fs[hitAt fs n]? = some f) : hitInt fs n = hitAt fs n ∧ hitAt fs n < fs.length := by
  have h1 := (List.getElem?_eq_some_iff.1 h).1
  exact ⟨by simp [hitInt, h1], h1⟩

set_option maxHeartbeats 400000 in
theorem call_goes (A : Option Addr) (n c g base : Nat) (s : St) (w : World) (h : DiskAt w base g s) (hbase : base ≤ w.heap.size) (hc : s.calls < 1000000) (hd : s.down = false) (hh : s.faults[hitAt s.faults s.calls]? = none) :
    Calls Try.prog 25 #[.pointer (some ⟨g, 0, none⟩), .slice A n c] w fun e w' => e = .returned (.int .i64 0) ∧ DiskAt w' base g { s with calls := s.calls + 1 } ∧ Keeps [52] base w w' ∧ w.grownBy w' (some g) := by
  obtain ⟨vb, vf, h⟩ := h
  obtain ⟨-, -, -, c3, c4, c5⟩ := h.cells
  have f4 := h.blk.frozen 4
  have hlt := h.lt
  have hfew := h.ok.few
  rw [hd] at c5
  obtain ⟨Af, cf, rfl, -, -⟩ := own_slice h.faults
  have h1 := h.setCalls (s.calls + 1) (by omega)
  have k1 := (keeps_set (ts := [52]) h.blk h.base (by simp) 4 (.int .i64 ((s.calls + 1 : Nat) : Int))).alloc (by simpa [World.setCell] using hbase) (.cells #[.int .i64 s.calls] 3)
  have h2 := h1.below ((Below.refl _ _).alloc (Nat.le_refl _) (.cells #[.int .i64 s.calls] 3))
  have g1 := (only_setCell (World.grownBy.refl w (some g)) (p := ⟨g, 4, none⟩) (.inl rfl) (.int .i64 ((s.calls + 1 : Nat) : Int)))
  have g2 := only_alloc g1 (.cells #[.int .i64 s.calls] 3)
  have hfs := hitInt_none hh
  have H := Lib.hid (And.intro h2 (And.intro k1 (And.intro hfs (And.intro hh (And.intro hd g2)))))
  clear h h1 h2 k1 hfs hh hd g1 g2
  go_enter Try.func25, Try.ntmps25
  go_wp2_with fail
  have h2 := H.out.1
  have k1 := H.out.2.1
  refine (indexFunc_any s.faults Af cf s.calls _ base _ h2.faults (by omega) (cell_new1 (size_setCell _ _ _).symm)).mono ?_
  rintro e w1 ⟨rfl, hb1⟩
  rw [H.out.2.2.1]
  have h3 := Lib.hid (And.intro (h2.below hb1) (And.intro (k1.then_ (Nat.le_trans hbase k1.below.size) hb1) (only_then H.out.2.2.2.2.2 hb1)))
  clear h2 k1 hb1 
  go_wp2
  go_ret
  exact ⟨rfl, ⟨_, _, h3.out.1⟩, h3.out.2.1, h3.out.2.2⟩

set_option maxRecDepth 100000 in
set_option maxHeartbeats 4000000 in
theorem call_falls (A : Option Addr) (bs : List UInt8) (c g base : Nat) (s : St) (f : Int × Int) (w : World) (h : DiskAt w base g s) (hbase : base ≤ w.heap.size) (hc : s.calls < 1000000) (hd : s.down = false) (hh : s.faults[hitAt s.faults s.calls]? = some f)
    (hr : Reads w w.heap.size 1 A bs.length (byteV bs)) (hne : 0 < bs.length → ∀ ad, A = some ad → ad.block ≠ g) (hbs : bs.length ≤ c) (hcm : bs.length ≤ 140737488355328) :
    Calls Try.prog 25 #[.pointer (some ⟨g, 0, none⟩), .slice A bs.length c] w fun e w' => e = .returned (.int .i64 9) ∧ DiskAt w' base g (s.fell f.2 bs) ∧ Keeps [52, 5] base w w' := by
  obtain ⟨vb, vf, h⟩ := h
  obtain ⟨i0, hi0, hz0, hz1, hz2⟩ := info_parts info5
  obtain ⟨-, -, -, c3, c4, c5⟩ := h.cells
  have f4 := h.blk.frozen 4
  have hlt := h.lt
  have hfew := h.ok.few
  rw [hd] at c5
  obtain ⟨Af, cf, rfl, -, -⟩ := own_slice h.faults
  obtain ⟨Ab, cb, rfl, -, -⟩ := own_slice h.bytes
  have h1 := h.setCalls (s.calls + 1) (by omega)
  have k1 := (keeps_set (ts := [52, 5]) h.blk h.base (by simp) 4 (.int .i64 ((s.calls + 1 : Nat) : Int))).alloc (by simpa [World.setCell] using hbase) (.cells #[.int .i64 s.calls] 3)
  have h2 := h1.below ((Below.refl _ _).alloc (Nat.le_refl _) (.cells #[.int .i64 s.calls] 3))
  have hfs := hitInt_some hh
  have H := Lib.hid (And.intro h2 (And.intro k1 (And.intro hfs (And.intro hh (And.intro hd hr)))))
  clear h h1 h2 k1 hfs hh hd hr
  go_enter Try.func25, Try.ntmps25
  go_wp2_with fail
  have h2 := H.out.1
  have k1 := H.out.2.1
  refine (indexFunc_any s.faults Af cf s.calls _ base _ h2.faults (by omega) (cell_new1 (size_setCell _ _ _).symm)).mono ?_
  rintro e w1 ⟨rfl, hb1⟩
  rw [H.out.2.2.1.1]
  have h3 := h2.below hb1
  obtain ⟨c0, c1, c2, c3, -, -⟩ := h3.cells
  have hk0 : decide ((hitAt s.faults s.calls : Int) < 0) = false := by simp
  have hs1 := h3.ok.size
  have hs2 := h3.ok.most
  have hs3 := h3.ok.synced
  have HF := Lib.hid (And.intro h3 (k1.then_ (Nat.le_trans hbase k1.below.size) hb1))
  have hr1 : Reads w1 w1.heap.size 1 A bs.length (byteV bs) := by
    have q := ((H.out.2.2.2.2.2.far (p := ⟨g, 4, none⟩) hne (.int .i64 ((s.calls + 1 : Nat) : Int))).alloc (by simp [World.setCell]) (.cells #[.int .i64 s.calls] 3))
    exact (q.below (hb1.mono (by simp [World.setCell]))).more (Nat.le_trans (by simp [World.setCell]) hb1.size)
  have HR := Lib.hid hr1
  clear h2 k1 hb1 h3 hr1
  go_wp2_with fail
  obtain ⟨r, hr⟩ : ∃ r : Nat, r = s.size - s.b.length := ⟨_, rfl⟩
  have hw : IntKind.i64.wrap ((s.size : Int) - (s.b.length : Int)) = (r : Int) := by rw [IntWalk.i64_in _ (by omega)]; omega
  obtain ⟨m, hm⟩ : ∃ m : Nat, m = min bs.length r := ⟨_, rfl⟩
  have hmin : (if (r : Int) < (bs.length : Int) then (r : Int) else (bs.length : Int)) = (m : Int) := by split <;> omega
  have hminN : (if r < bs.length then (r : Int) else (bs.length : Int)) = (m : Int) := by split <;> omega
  have hm0 : (0 : Int) ≤ (m : Int) := by omega
  have hmc : (m : Int) ≤ (c : Int) := by omega
  have HM := Lib.hid (And.intro hr hm)
  clear hr hm
  have hm1 : m ≤ bs.length := by have := HM.out.2; omega
  have hlm : s.b.length + m ≤ s.size := by have := HM.out.1; have := HM.out.2; omega
  have HRT := Lib.hid (HR.out.take hm1)
  have HO := Lib.hid HF.out.1.bytes
  have hbase1 : base ≤ w1.heap.size := Nat.le_trans hbase HF.out.2.below.size
  have HG : Hid (∀ w', w1.drew.grownBy w' (Value.slice Ab s.b.length cb).ownBlock → Blk w' g 52 #[.slice Ab s.b.length cb, .int .i64 s.synced, .int .i64 s.size, .slice Af s.faults.length cf, .int .i64 (s.calls + 1 : Nat), .bool s.down]) :=
    fun w' hg => (Blk.drew HF.out.1.blk).grown hg (fun e => own_blk_ne HF.out.1.bytes HF.out.1.blk (by decide) e.symm)
  have HX : Hid (∀ (A2 : Option Addr) (c2 : Nat) (w2 : World), w2.ownsRow base 5 1 (.slice A2 (s.b.length + m) c2) (s.b.length + m) (byteV s.b ++ List.take (m * 1) (byteV bs)) → w1.drew.grownBy w2 (Value.slice Ab s.b.length cb).ownBlock →
      DiskIn (w2.setCell ⟨g, 0, none⟩ (.slice A2 (s.b.length + m) c2)) base g { s with b := s.room bs, calls := s.calls + 1 } (.slice A2 (s.b.length + m) c2) (.slice Af s.faults.length cf) ∧ Keeps [52, 5] base w (w2.setCell ⟨g, 0, none⟩ (.slice A2 (s.b.length + m) c2))) := by
    intro A2 c2 w2 h1 h2
    obtain ⟨hr, hm⟩ := HM.out
    subst hr
    have hl : (s.room bs).length = s.b.length + m := by simp [St.room]; omega
    have hv : w2.ownsRow base 5 1 (.slice A2 (s.b.length + m) c2) (s.room bs).length (byteV (s.room bs)) := by
      rw [hl, St.room, byteV_append, byteV_take, ← hm]
      simpa using h1
    have hd1 := DiskIn.drew HF.out.1
    exact ⟨hd1.appended (s := { s with calls := s.calls + 1 }) h2 hv (by rw [hl]; simp; omega) (by rw [hl]; simp; omega), HF.out.2.drew.trans (hd1.keepsAppended hbase1 h2 _)⟩
  go_upto_region 10 with (fail)
  go_cut [55] (fun _ wc => ∃ A2 c2, DiskIn wc base g { s with b := s.room bs, calls := s.calls + 1 } (.slice A2 (s.b.length + m) c2) (.slice Af s.faults.length cf) ∧ Keeps [52, 5] base w wc)
  case first =>
    go_region_law (refine step_append_any _ rfl (.tmp 39) (.tmp 54) 29 rfl base 5 i0 _ 1 1 Try.underlying29 hi0 hz0 hz1 hz2 rfl (by omega) (.slice Ab s.b.length cb) s.b.length (byteV s.b) rfl HO.out w1.heap.size A m c _ rfl HRT.out (fun u hu => byteV_one bs u (List.mem_of_mem_take hu)) (by simp only [maxLen]; omega) (by omega) hbase1 ?_; intro v2 w2 hown2 hg2 hat2; obtain ⟨A2, c2, rfl, -, -⟩ := own_slice hown2; have hd0 : w2.cell? ⟨g, 0, none⟩ = some (.slice Ab s.b.length cb) := (HG.out w2 hg2).cell 0; have he0 := (HG.out w2 hg2).frozen 0; have HA2 := Lib.hid (And.intro hown2 (And.intro hg2 hat2)); clear hown2 hg2 hat2)
    all_goals
      have hfin := HX.out A2 c2 w2 HA2.out.1 HA2.out.2.1
      go_wp2_with fail
      go_meet
      case rel => exact ⟨A2, c2, hfin⟩
  case rest =>
    obtain ⟨A2, c2, HD3, HK3⟩ := hcut
    clear c0 c1 c3 c4 c5 f4 hk0 hw hmin hminN hm0 hmc HG HO HX
    obtain ⟨hf1, hf2⟩ := H.out.2.2.1
    have hff : s.faults[hitAt s.faults s.calls] = f := (List.getElem?_eq_some_iff.1 H.out.2.2.2.1).2
    obtain ⟨bf, rfl, hbf, -, q1⟩ := own2_at HD3.faults hf2
    rw [show ({ s with b := s.room bs, calls := s.calls + 1 } : St).faults[hitAt s.faults s.calls] = f from hff] at q1
    obtain ⟨p0, p1, -, p3, -, -⟩ := HD3.cells
    have z1 := HD3.blk.frozen 1
    have hL : (s.room bs).length = s.b.length + m := by
      obtain ⟨hr, hm⟩ := HM.out
      simp [St.room]; omega
    have hi0' : (0 : Int) ≤ (hitAt s.faults s.calls : Int) := Int.natCast_nonneg _
    have hi1' : (hitAt s.faults s.calls : Int) < (s.faults.length : Int) := by omega
    have hkb := HD3.ok.keep f (by rw [← hff]; exact List.getElem_mem _)
    obtain ⟨kk, hkk⟩ : ∃ kk : Nat, kk = s.kept f.2 bs := ⟨_, rfl⟩
    have hk1 : kk = min (max f.2 0).toNat (s.b.length + m - s.synced) := by rw [hkk, St.kept, hL]
    have hw2 : IntKind.i64.wrap ((s.b.length : Int) + (m : Int) - (s.synced : Int)) = (s.b.length : Int) + (m : Int) - (s.synced : Int) := IntWalk.i64_in _ (by omega)
    obtain ⟨mx, hmx⟩ : ∃ mx : Int, (if f.2 < 0 then 0 else f.2) = mx := ⟨_, rfl⟩
    have hk2 : (if (s.b.length : Int) + (m : Int) - (s.synced : Int) < mx then (s.b.length : Int) + (m : Int) - (s.synced : Int) else mx) = (kk : Int) := by
      split at hmx <;> split <;> omega
    have hkl : s.synced + kk ≤ s.b.length + m := by omega
    have HL := Lib.hid (And.intro hL (And.intro hff (And.intro hf1 (And.intro hkk hk1))))
    have HD := Lib.hid HD3
    clear hL hff hf1 HD3 hkk hk1
    go_wp2_with fail
    go_quiet (fail)
    go_wp2_with fail
    have h1w := HD.out.drewN nq
    have h2w := h1w.setSynced (s.synced + kk) (by rw [HL.out.1]; exact hkl)
    have k2w := (HK3.drewN nq).trans (keeps_set (ts := [52, 5]) h1w.blk h1w.base (by simp) 1 (.int .i64 ((s.synced + kk : Nat) : Int)))
    rw [show (((s.synced + kk : Nat)) : Int) = (s.synced : Int) + (kk : Int) from by omega] at h2w k2w
    generalize ((wc.drewN nq).setCell { block := g, off := 1 } (Value.int IntKind.i64 (↑s.synced + ↑kk))) = w4 at *
    clear p0 p1 p3 q1 z1 hmx hk2 hw2 hi0' hi1'
    obtain ⟨L, hLL⟩ : ∃ L : Nat, L = s.b.length + m := ⟨_, rfl⟩
    obtain ⟨q, hq⟩ : ∃ q : Nat, q = s.synced + kk := ⟨_, rfl⟩
    have eq1 : (s.synced : Int) + (kk : Int) = (q : Int) := by omega
    rw [← hLL, ← hq] at h2w
    have hl2 : L ≤ c2 := by
      obtain ⟨_, _, hv, hl, _⟩ := own_slice h2w.bytes
      cases hv
      rw [hLL, ← HL.out.1]
      exact hl
    have hql : q ≤ L := by omega
    have hq0 : (0 : Int) ≤ (q : Int) := Int.natCast_nonneg _
    have hqc : (q : Int) ≤ (c2 : Int) := by omega
    obtain ⟨p0, p1, -, -, -, -⟩ := h2w.cells
    have hgl := h2w.lt
    have hRD : Hid (Reads w4 w4.heap.size 1 A2 q (byteV ((s.room bs).take q))) := by
      have h0 : w4.ownsRow base 5 1 (.slice A2 L c2) L (byteV (s.room bs)) := by
        have := h2w.bytes
        rw [show ({ s with b := s.room bs, calls := s.calls + 1, synced := q } : St).b.length = L from by rw [hLL, ← HL.out.1]] at this
        exact this
      have := (Reads.of_own h0).take hql
      rw [Nat.mul_one, ← byteV_take] at this
      exact this
    have hbase4 : base ≤ w4.heap.size := Nat.le_trans hbase k2w.below.size
    have HX : Hid (∀ (A5 : Option Addr) (c5 : Nat) (w5 : World), w5.ownsRow w4.heap.size 5 1 (.slice A5 q c5) q (byteV ((s.room bs).take q)) → Below w4.heap.size w4.drew w5 →
        DiskIn (w5.setCell ⟨g, 0, none⟩ (.slice A5 q c5)) base g { s with b := (s.room bs).take q, synced := q, calls := s.calls + 1 } (.slice A5 q c5) (.slice (some ⟨bf, 0, none⟩) s.faults.length cf) ∧ Keeps [52, 5] base w (w5.setCell ⟨g, 0, none⟩ (.slice A5 q c5))) := by
      intro A5 c5 w5 h1 h2
      have hlen : ((s.room bs).take q).length = q := by rw [List.length_take, HL.out.1]; omega
      have d5 := h2w.drew.below h2
      have k5 := (k2w.drew).then_ hbase4 h2
      have ho : w5.ownsRow base 5 1 (.slice A5 q c5) ((s.room bs).take q).length (byteV ((s.room bs).take q)) := by
        rw [hlen]
        exact own_base h1 hbase4
      exact ⟨d5.setBytes (s := { s with b := s.room bs, synced := q, calls := s.calls + 1 }) ho (by rw [hlen]; exact Nat.le_refl _) (by rw [hlen]; simp; omega), k5.trans (keeps_set d5.blk d5.base (by simp) 0 _)⟩
    have HD4 := Lib.hid h2w
    clear h2w hLL hq
    go_upto_region 13 with (fail)
    go_cut [96] (fun _ wd => ∃ A5 c5, DiskIn wd base g { s with b := (s.room bs).take q, synced := q, calls := s.calls + 1 } (.slice A5 q c5) (.slice (some ⟨bf, 0, none⟩) s.faults.length cf) ∧ Keeps [52, 5] base w wd)
    case first =>
      go_region_with (go_at_call 28; refine (clone_bytes A2 q c2 _ _ (by exact hRD.out) (byteV_one _) (by omega)).mono ?_; rintro e w5 ⟨v5, rfl, hown5, hb5⟩; obtain ⟨A5, c5, rfl, -, -⟩ := own_slice hown5; have hd0 := (hb5.cell (p := ⟨g, 0, none⟩) hgl).trans p0; have he0 := (hb5.frozen (p := ⟨g, 0, none⟩) hgl).trans (HD4.out.blk.frozen 0); have HA5 := Lib.hid (And.intro hown5 hb5); clear hown5 hb5)
      all_goals
        have hfin := HX.out A5 c5 w5 HA5.out.1 HA5.out.2
        go_wp2_with fail
        go_meet
        case rel => exact ⟨A5, c5, hfin⟩
    case rest =>
      obtain ⟨A5, c5, HD5, HK5⟩ := hcut
      clear p0 p1 HX hRD HD4
      obtain ⟨-, -, -, -, -, p5⟩ := HD5.cells
      have z5 := HD5.blk.frozen 5
      have hfin : Hid (DiskAt (wc.setCell ⟨g, 5, none⟩ (.bool true)) base g (s.fell f.2 bs) ∧ Keeps [52, 5] base w (wc.setCell ⟨g, 5, none⟩ (.bool true))) := by
        have d := HD5.setDown true
        have e : s.fell f.2 bs = { s with b := (s.room bs).take q, synced := q, calls := s.calls + 1, down := true } := by
          rw [St.fell, ← HL.out.2.2.2.1]
          have : s.synced + kk = q := by omega
          rw [this]
        rw [e]
        exact ⟨⟨_, _, d⟩, HK5.trans (keeps_set HD5.blk HD5.base (by simp) 5 _)⟩
      clear HD5
      go_wp2
      go_ret
      exact ⟨rfl, hfin.out⟩
end Go.Proofs.Ytfmdloomjnmpgaa
