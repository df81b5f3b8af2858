/-
  The disk's own calls, each by its contract: what it answers and what the disk is behind it.
-/
import Derived.Test.YtfmdloomjnmpgaaCall
namespace Go.Proofs.Ytfmdloomjnmpgaa
open Go.RowKit

theorem call_code (s : St) (bs : List UInt8) : ((s.call bs).1 = 9) ∨ (s.call bs = (0, { s with calls := s.calls + 1 }) ∧ s.down = false ∧ s.faults[hitAt s.faults s.calls]? = none) := by
  unfold St.call
  cases hd : s.down with
  | true => simp
  | false =>
    cases hf : s.faults[hitAt s.faults s.calls]? with
    | none => simp
    | some f => simp

theorem call_any (A : Option Addr) (bs : List UInt8) (c g base : Nat) (s : St) (w : World) (h : DiskAt w base g s) (hbase : base ≤ w.heap.size) (hc : s.calls < 1000000)
    (hr : Reads w w.heap.size 1 A bs.length (byteV bs)) (hne : 0 < bs.length → ∀ ad, A = some ad → ad.block ≠ g) (hbs : bs.length ≤ c) (hcm : bs.length ≤ 140737488355328) :
    Calls Try.prog 25 #[.pointer (some ⟨g, 0, none⟩), .slice A bs.length c] w fun e w' => e = .returned (.int .i64 (s.call bs).1) ∧ DiskAt w' base g (s.call bs).2 ∧ Keeps [52, 5] base w w' := by
  cases hd : s.down with
  | true =>
    refine (call_down A bs.length c g base s w h hd).mono ?_
    rintro e w' ⟨rfl, rfl⟩
    rw [show s.call bs = (9, s) by simp [St.call, hd]]
    exact ⟨rfl, h, Keeps.refl _ _ _⟩
  | false =>
    cases hf : s.faults[hitAt s.faults s.calls]? with
    | none =>
      refine (call_goes A bs.length c g base s w h hbase hc hd hf).mono ?_
      rintro e w' ⟨rfl, h1, h2, -⟩
      rw [show s.call bs = (0, { s with calls := s.calls + 1 }) by simp [St.call, hd, hf]]
      exact ⟨rfl, h1, h2.wide (by simp)⟩
    | some f =>
      refine (call_falls A bs c g base s f w h hbase hc hd hf hr hne hbs hcm).mono ?_
      rintro e w' ⟨rfl, h1, h2⟩
      rw [show s.call bs = (9, s.fell f.2 bs) by simp [St.call, hd, hf]]
      exact ⟨rfl, h1, h2⟩

def St.append (s : St) (bs : List UInt8) : Int × St :=
  if (s.call bs).1 = 9 then s.call bs
  else if (s.call bs).2.size - (s.call bs).2.b.length < bs.length then (8, (s.call bs).2)
  else (0, { (s.call bs).2 with b := (s.call bs).2.b ++ bs })
def St.sync (s : St) : Int × St :=
  if (s.call []).1 = 9 then s.call [] else (0, { (s.call []).2 with synced := (s.call []).2.b.length })
def St.trunc (s : St) (n : Int) : Int × St :=
  if (s.call []).1 = 9 then s.call []
  else if n < 0 ∨ ((s.call []).2.b.length : Int) < n then (1, (s.call []).2)
  else (0, { (s.call []).2 with b := (s.call []).2.b.take n.toNat, synced := min (s.call []).2.synced n.toNat })

set_option maxHeartbeats 400000 in
theorem append_stops (A : Option Addr) (bs : List UInt8) (c g base : Nat) (s : St) (w : World) (h : DiskAt w base g s) (hbase : base ≤ w.heap.size) (hc : s.calls < 1000000)
    (hr : Reads w w.heap.size 1 A bs.length (byteV bs)) (hne : 0 < bs.length → ∀ ad, A = some ad → ad.block ≠ g) (hbs : bs.length ≤ c) (hcm : bs.length ≤ 140737488355328) (h9 : (s.call bs).1 = 9) :
    Calls Try.prog 11 #[.pointer (some ⟨g, 0, none⟩), .slice A bs.length c] w fun e w' => e = .returned (.int .i64 9) ∧ DiskAt w' base g (s.call bs).2 ∧ Keeps [52, 5] base w w' := by
  have H9 := Lib.hid h9
  clear h9
  go_enter Try.func11, Try.ntmps11
  go_wp2_with fail
  refine (call_any A bs c g base s w h hbase hc hr hne hbs hcm).mono ?_
  rintro e w1 ⟨rfl, h1⟩
  rw [H9.out]
  have H1 := Lib.hid h1
  clear h1
  go_wp2_with fail
  go_ret
  exact ⟨rfl, H1.out⟩

set_option maxHeartbeats 400000 in
theorem append_goes (A : Option Addr) (bs : List UInt8) (c g base : Nat) (s : St) (w : World) (h : DiskAt w base g s) (hbase : base ≤ w.heap.size) (hc : s.calls < 1000000)
    (hr : Reads w w.heap.size 1 A bs.length (byteV bs)) (hne : 0 < bs.length → ∀ ad, A = some ad → ad.block ≠ g) (hbs : bs.length ≤ c) (hcm : bs.length ≤ 140737488355328) (h0 : s.call bs = (0, { s with calls := s.calls + 1 })) (hfull : s.size - s.b.length < bs.length) :
    Calls Try.prog 11 #[.pointer (some ⟨g, 0, none⟩), .slice A bs.length c] w fun e w' => e = .returned (.int .i64 8) ∧ DiskAt w' base g { s with calls := s.calls + 1 } ∧ Keeps [52, 5] base w w' := by
  have H0 := Lib.hid h0
  clear h0
  go_enter Try.func11, Try.ntmps11
  go_wp2_with fail
  refine (call_any A bs c g base s w h hbase hc hr hne hbs hcm).mono ?_
  rintro e w1 ⟨rfl, h1, hk1⟩
  rw [H0.out] at h1 ⊢
  obtain ⟨vb, vf, hd⟩ := h1
  obtain ⟨Ab, cb, rfl, -, -⟩ := own_slice hd.bytes
  obtain ⟨p0, -, p2, -, -, -⟩ := hd.cells
  have q1 := hd.ok.size
  have q2 := hd.ok.most
  have hw : IntKind.i64.wrap ((s.size : Int) - (s.b.length : Int)) = (s.size : Int) - (s.b.length : Int) := IntWalk.i64_in _ (by simp at q1 q2; omega)
  have ht : decide ((s.size : Int) - (s.b.length : Int) < (bs.length : Int)) = true := decide_eq_true (by omega)
  have HD := Lib.hid (And.intro hd hk1)
  clear hd hk1 h hr
  go_wp2_with fail
  go_quiet (fail)
  go_wp2_with fail
  go_ret
  exact ⟨rfl, ⟨_, _, HD.out.1.drewN _⟩, HD.out.2.drewN _⟩

set_option maxHeartbeats 400000 in
theorem append_fits (A : Option Addr) (bs : List UInt8) (c g base : Nat) (s : St) (w : World) (h : DiskAt w base g s) (hbase : base ≤ w.heap.size) (hc : s.calls < 1000000)
    (hr : Reads w w.heap.size 1 A bs.length (byteV bs)) (hne : 0 < bs.length → ∀ ad, A = some ad → ad.block ≠ g) (hd0 : s.down = false) (hf0 : s.faults[hitAt s.faults s.calls]? = none) (hfits : s.b.length + bs.length ≤ s.size) :
    Calls Try.prog 11 #[.pointer (some ⟨g, 0, none⟩), .slice A bs.length c] w fun e w' => e = .returned (.int .i64 0) ∧ DiskAt w' base g { s with b := s.b ++ bs, calls := s.calls + 1 } ∧ Keeps [52, 5] base w w' := by
  obtain ⟨i0, hi0, hz0, hz1, hz2⟩ := info_parts info5
  have HF := Lib.hid (And.intro hd0 hf0)
  have HR := Lib.hid hr
  clear hd0 hf0 hr
  go_enter Try.func11, Try.ntmps11
  go_wp2_with fail
  refine (call_goes A bs.length c g base s w h hbase hc HF.out.1 HF.out.2).mono ?_
  rintro e w1 ⟨rfl, ⟨vb, vf, hd⟩, hk1, hg1⟩
  obtain ⟨Ab, cb, rfl, -, -⟩ := own_slice hd.bytes
  obtain ⟨p0, -, p2, -, -, -⟩ := hd.cells
  have q1 := hd.ok.size
  have q2 := hd.ok.most
  have hlt := hd.lt
  have hw : IntKind.i64.wrap ((s.size : Int) - (s.b.length : Int)) = (s.size : Int) - (s.b.length : Int) := IntWalk.i64_in _ (by simp at q1 q2; omega)
  have ht : decide ((s.size : Int) - (s.b.length : Int) < (bs.length : Int)) = false := decide_eq_false (by omega)
  have hr1 := only_reads HR.out hg1 hne
  have hbase1 : base ≤ w1.heap.size := Nat.le_trans hbase hk1.below.size
  have HD := Lib.hid (And.intro hd (And.intro (hk1.wide (ts' := [52, 5]) (by simp)) (And.intro hr1 hd.bytes)))
  have HX : Hid (∀ (nq : Nat) (A2 : Option Addr) (c2 : Nat) (w2 : World), w2.ownsRow base 5 1 (.slice A2 (s.b.length + bs.length) c2) (s.b.length + bs.length) (byteV s.b ++ byteV bs) → (w1.drewN nq).grownBy w2 (Value.slice Ab s.b.length cb).ownBlock →
      DiskIn (w2.setCell ⟨g, 0, none⟩ (.slice A2 (s.b.length + bs.length) c2)) base g { s with b := s.b ++ bs, calls := s.calls + 1 } (.slice A2 (s.b.length + bs.length) c2) vf ∧ Keeps [52, 5] base w (w2.setCell ⟨g, 0, none⟩ (.slice A2 (s.b.length + bs.length) c2))
      ∧ w2.cell? ⟨g, 0, none⟩ = some (.slice Ab s.b.length cb) ∧ w2.frozen? ⟨g, 0, none⟩ = false) := by
    intro nq A2 c2 w2 h1 h2
    have hd1 := DiskIn.drewN hd nq
    have hl : (s.b ++ bs).length = s.b.length + bs.length := by simp
    have hv : w2.ownsRow base 5 1 (.slice A2 (s.b.length + bs.length) c2) (s.b ++ bs).length (byteV (s.b ++ bs)) := by
      rw [hl, byteV_append]
      exact h1
    have hb2 : Blk w2 g 52 _ := hd1.blk.grown h2 (fun e => own_blk_ne hd1.bytes hd1.blk (by decide) e.symm)
    exact ⟨hd1.appended (s := { s with calls := s.calls + 1 }) h2 hv (by rw [hl]; have := hd.ok.synced; simp at this ⊢; omega) (by rw [hl]; simp; omega), (HD.out.2.1.drewN nq).trans (hd1.keepsAppended hbase1 h2 _), hb2.cell 0, hb2.frozen 0⟩
  clear hd hk1 h hg1 hr1
  go_wp2_with fail
  go_quiet (fail)
  go_wp2_with (at_builtin; refine wpList_append_any _ rfl (.tmp 31) (.tmp 32) 29 rfl base 5 i0 _ 1 1 Try.underlying29 hi0 hz0 hz1 hz2 rfl (by omega) (.slice Ab s.b.length cb) s.b.length (byteV s.b) rfl (own_drewN HD.out.2.2.2 _) w1.heap.size A bs.length c (byteV bs) rfl (HD.out.2.2.1.drewN _) (byteV_one bs) (by simp only [maxLen]; omega) (by omega) hbase1 ?_; intro v2 w2 hown2 hg2 _; obtain ⟨A2, c2, rfl, -, -⟩ := own_slice hown2; have hx := HX.out _ A2 c2 w2 hown2 hg2; have hd0 := hx.2.2.1; have he0 := hx.2.2.2; have HA2 := Lib.hid (And.intro hx.1 hx.2.1); clear hown2 hg2 hx)
  go_ret
  exact ⟨rfl, ⟨_, _, HA2.out.1⟩, HA2.out.2⟩

theorem append_any (A : Option Addr) (bs : List UInt8) (c g base : Nat) (s : St) (w : World) (h : DiskAt w base g s) (hbase : base ≤ w.heap.size) (hc : s.calls < 1000000)
    (hr : Reads w w.heap.size 1 A bs.length (byteV bs)) (hne : 0 < bs.length → ∀ ad, A = some ad → ad.block ≠ g) (hbs : bs.length ≤ c) (hcm : bs.length ≤ 140737488355328) :
    Calls Try.prog 11 #[.pointer (some ⟨g, 0, none⟩), .slice A bs.length c] w fun e w' => e = .returned (.int .i64 (s.append bs).1) ∧ DiskAt w' base g (s.append bs).2 ∧ Keeps [52, 5] base w w' := by
  rcases call_code s bs with h9 | ⟨h0, hd, hf⟩
  · refine (append_stops A bs c g base s w h hbase hc hr hne hbs hcm h9).mono ?_
    rintro e w' ⟨rfl, h1⟩
    rw [show s.append bs = s.call bs by simp [St.append, h9], h9]
    exact ⟨rfl, h1⟩
  · by_cases hfull : s.size - s.b.length < bs.length
    · refine (append_goes A bs c g base s w h hbase hc hr hne hbs hcm h0 hfull).mono ?_
      rintro e w' ⟨rfl, h1⟩
      rw [show s.append bs = (8, { s with calls := s.calls + 1 }) by simp [St.append, h0, hfull]]
      exact ⟨rfl, h1⟩
    · have hsz : s.b.length ≤ s.size := by obtain ⟨_, _, hh⟩ := h; exact hh.ok.size
      refine (append_fits A bs c g base s w h hbase hc hr hne hd hf (by omega)).mono ?_
      rintro e w' ⟨rfl, h1⟩
      rw [show s.append bs = (0, { s with b := s.b ++ bs, calls := s.calls + 1 }) by simp [St.append, h0, hfull]]
      exact ⟨rfl, h1⟩

set_option maxHeartbeats 400000 in
theorem append_nil (A : Option Addr) (n c : Nat) (w : World) : Calls Try.prog 11 #[.pointer none, .slice A n c] w fun e w' => e = .returned (.int .i64 1) ∧ w' = w := by
  go_enter Try.func11, Try.ntmps11
  go_wp2_with fail
  refine (call_nil A n c w).mono ?_
  rintro e w1 ⟨rfl, rfl⟩
  go_wp2_with fail
  go_ret
  exact ⟨rfl, rfl⟩

theorem reads_nil (w : World) (B : Nat) : Reads w B 1 none ([] : List UInt8).length (byteV []) := ⟨by simp [byteV], fun h => absurd h (by simp)⟩

set_option maxHeartbeats 400000 in
theorem sync_any (g base : Nat) (s : St) (w : World) (h : DiskAt w base g s) (hbase : base ≤ w.heap.size) (hc : s.calls < 1000000) :
    Calls Try.prog 13 #[.pointer (some ⟨g, 0, none⟩)] w fun e w' => e = .returned (.int .i64 s.sync.1) ∧ DiskAt w' base g s.sync.2 ∧ Keeps [52, 5] base w w' := by
  rcases call_code s [] with h9 | ⟨h0, -, -⟩
  · rw [show s.sync = s.call [] by simp [St.sync, h9]]
    have H9 := Lib.hid h9
    clear h9
    go_enter Try.func13, Try.ntmps13
    go_wp2_with fail
    refine (call_any none [] 0 g base s w h hbase hc (reads_nil _ _) (fun _ _ h => by cases h) (by simp) (by simp)).mono ?_
    rintro e w1 ⟨rfl, h1⟩
    rw [H9.out]
    have H1 := Lib.hid h1
    clear h1
    go_wp2_with fail
    go_ret
    exact ⟨by rw [H9.out]; rfl, H1.out⟩
  · rw [show s.sync = (0, { s with calls := s.calls + 1, synced := s.b.length }) by simp [St.sync, h0]]
    have H0 := Lib.hid h0
    clear h0
    go_enter Try.func13, Try.ntmps13
    go_wp2_with fail
    refine (call_any none [] 0 g base s w h hbase hc (reads_nil _ _) (fun _ _ h => by cases h) (by simp) (by simp)).mono ?_
    rintro e w1 ⟨rfl, ⟨h1, hk1⟩⟩
    rw [H0.out] at h1 ⊢
    obtain ⟨vb, vf, hd⟩ := h1
    obtain ⟨Ab, cb, rfl, -, -⟩ := own_slice hd.bytes
    obtain ⟨p0, p1, -, -, -, -⟩ := hd.cells
    have z1 := hd.blk.frozen 1
    have hfin := Lib.hid (And.intro (hd.setSynced s.b.length (Nat.le_refl _)) (hk1.trans (keeps_set (ts := [52, 5]) hd.blk hd.base (by simp) 1 (.int .i64 (s.b.length : Nat)))))
    clear hd hk1 h
    go_wp2_with fail
    go_ret
    exact ⟨rfl, ⟨_, _, hfin.out.1⟩, hfin.out.2⟩

set_option maxHeartbeats 400000 in
theorem len_any (g base : Nat) (s : St) (w : World) (h : DiskAt w base g s) :
    Calls Try.prog 20 #[.pointer (some ⟨g, 0, none⟩)] w fun e w' => e = .returned (.int .i64 s.b.length) ∧ w' = w := by
  obtain ⟨vb, vf, hd⟩ := h
  obtain ⟨Ab, cb, rfl, -, -⟩ := own_slice hd.bytes
  obtain ⟨p0, -, -, -, -, -⟩ := hd.cells
  clear hd
  go_enter Try.func20, Try.ntmps20
  go_wp2_with fail
  go_ret
  exact ⟨rfl, rfl⟩
set_option maxHeartbeats 400000 in
theorem len_nil (w : World) : Calls Try.prog 20 #[.pointer none] w fun e w' => e = .returned (.int .i64 0) ∧ w' = w := by
  go_enter Try.func20, Try.ntmps20
  go_wp2_with fail
  go_ret
  exact ⟨rfl, rfl⟩
set_option maxHeartbeats 400000 in
theorem synced_any (g base : Nat) (s : St) (w : World) (h : DiskAt w base g s) :
    Calls Try.prog 21 #[.pointer (some ⟨g, 0, none⟩)] w fun e w' => e = .returned (.int .i64 s.synced) ∧ w' = w := by
  obtain ⟨vb, vf, hd⟩ := h
  obtain ⟨-, p1, -, -, -, -⟩ := hd.cells
  clear hd
  go_enter Try.func21, Try.ntmps21
  go_wp2_with fail
  go_ret
  exact ⟨rfl, rfl⟩
set_option maxHeartbeats 400000 in
theorem down_any (g base : Nat) (s : St) (w : World) (h : DiskAt w base g s) :
    Calls Try.prog 22 #[.pointer (some ⟨g, 0, none⟩)] w fun e w' => e = .returned (.bool s.down) ∧ w' = w := by
  obtain ⟨vb, vf, hd⟩ := h
  obtain ⟨-, -, -, -, -, p5⟩ := hd.cells
  clear hd
  go_enter Try.func22, Try.ntmps22
  go_wp2_with fail
  go_ret
  exact ⟨rfl, rfl⟩
set_option maxHeartbeats 400000 in
theorem calls_any (g base : Nat) (s : St) (w : World) (h : DiskAt w base g s) :
    Calls Try.prog 23 #[.pointer (some ⟨g, 0, none⟩)] w fun e w' => e = .returned (.int .i64 s.calls) ∧ w' = w := by
  obtain ⟨vb, vf, hd⟩ := h
  obtain ⟨-, -, -, -, p4, -⟩ := hd.cells
  clear hd
  go_enter Try.func23, Try.ntmps23
  go_wp2_with fail
  go_ret
  exact ⟨rfl, rfl⟩
end Go.Proofs.Ytfmdloomjnmpgaa
