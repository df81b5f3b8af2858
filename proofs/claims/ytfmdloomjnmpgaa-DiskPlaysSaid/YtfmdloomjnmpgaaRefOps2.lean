/-
  The reference's Truncate and Up.
-/
import Derived.Test.YtfmdloomjnmpgaaRefOps
namespace Go.Proofs.Ytfmdloomjnmpgaa
open Go.RowKit

set_option maxHeartbeats 1000000 in
theorem reftrunc_goes (n : Int) (g base : Nat) (s : St) (w : World) (h : RefAt w base g s) (hc : s.calls < 1000000) (hd : s.down = false) (hf : s.faults[hitAt s.faults s.calls]? = none) :
    Calls Try.prog 16 #[.pointer (some ⟨g, 0, none⟩), .int .i64 n] w fun e w' => e = .returned (.int .i64 (s.trunc n).1) ∧ RefAt w' base g (s.trunc n).2 ∧ Keeps [37] base w w' := by
  go_enter Try.func16, Try.ntmps16
  go_wp2_with fail
  refine (refcall_up g base s w h hc hd).mono ?_
  rw [refAns_none hf]
  rintro e w1 ⟨rfl, ⟨vf, hr⟩, hk⟩
  obtain ⟨-, -, c2, c3, -, -⟩ := hr.cells
  have f2 := hr.blk.frozen 2
  have f3 := hr.blk.frozen 3
  have hlt := hr.lt
  have hs1 := hr.ok.synced
  have hs2 := hr.ok.size
  have hs3 := hr.ok.most
  simp only [] at c2 c3 hs1 hs2 hs3
  have hz1 := bstr_size s.b
  by_cases h0 : n < 0
  · have ha : s.trunc n = (1, { s with calls := s.calls + 1 }) := by simp [St.trunc, call_of_none [] hd hf, h0]
    have HR := Lib.hid (And.intro ha (And.intro hr hk))
    clear hr hk h hf hd ha
    go_wp2_with fail
    go_ret
    rw [HR.out.1]
    exact ⟨rfl, ⟨_, HR.out.2.1⟩, HR.out.2.2⟩
  · by_cases h1 : (s.b.length : Int) < n
    · have ha : s.trunc n = (1, { s with calls := s.calls + 1 }) := by simp [St.trunc, call_of_none [] hd hf, h1]
      have HR := Lib.hid (And.intro ha (And.intro hr hk))
      clear hr hk h hf hd ha
      go_wp2_with fail
      go_ret
      rw [HR.out.1]
      exact ⟨rfl, ⟨_, HR.out.2.1⟩, HR.out.2.2⟩
    · obtain ⟨m, rfl⟩ : ∃ m : Nat, n = (m : Int) := ⟨n.toNat, by omega⟩
      have ha : s.trunc m = (0, { s with b := s.b.take m, synced := min s.synced m, calls := s.calls + 1 }) := by simp [St.trunc, call_of_none [] hd hf, h1]
      have hlen : (s.b.take m).length = m := by simp; omega
      obtain ⟨q, hq⟩ : ∃ q : Nat, q = min s.synced m := ⟨_, rfl⟩
      have hmin : (if (m : Int) < (s.synced : Int) then (m : Int) else (s.synced : Int)) = (q : Int) := by split <;> omega
      have hminN : (if m < s.synced then (m : Int) else (s.synced : Int)) = (q : Int) := by split <;> omega
      have hext : (bstr s.b).extract 0 m = bstr (s.b.take m) := bstr_take _ _
      have hml : m ≤ s.b.length := by omega
      have HX : Hid (RefIn ((w1.setCell ⟨g, 2, none⟩ (.string (bstr (s.b.take m)))).setCell ⟨g, 3, none⟩ (.int .i64 q)) base g { s with b := s.b.take m, synced := q, calls := s.calls + 1 } vf ∧ Keeps [37] base w ((w1.setCell ⟨g, 2, none⟩ (.string (bstr (s.b.take m)))).setCell ⟨g, 3, none⟩ (.int .i64 q))) := by
        have k1 := keeps_set (ts := [37]) hr.blk hr.base (by simp) 2 (.string (bstr (s.b.take m)))
        have b1 := hr.blk.set_ 2 (.string (bstr (s.b.take m)))
        have k2 := keeps_set (ts := [37]) b1 hr.base (by simp) 3 (.int .i64 q)
        have ho := hr.ok
        exact ⟨⟨b1.set_ 3 _, k2.own (k1.own hr.faults (by simp)) (by simp), hr.base, ⟨by simp only [hlen]; omega, by simp only [hlen]; omega, ho.most, ho.few, ho.calls, ho.keep⟩⟩, hk.trans (k1.trans k2)⟩
      have HA := Lib.hid (And.intro ha hq)
      clear hr hk h hf hd ha hq
      go_wp2_with fail
      go_ret
      rw [HA.out.1, ← HA.out.2]
      exact ⟨rfl, ⟨vf, HX.out.1⟩, HX.out.2⟩

set_option maxHeartbeats 1000000 in
theorem reftrunc_any (n : Int) (g base : Nat) (s : St) (w : World) (h : RefAt w base g s) (hc : s.calls < 1000000) :
    Calls Try.prog 16 #[.pointer (some ⟨g, 0, none⟩), .int .i64 n] w fun e w' => e = .returned (.int .i64 (s.trunc n).1) ∧ RefAt w' base g (s.trunc n).2 ∧ Keeps [37] base w w' := by
  cases hd : s.down with
  | true =>
    have e : s.trunc n = (9, s) := by simp [St.trunc, call_of_down [] hd]
    rw [e]
    go_enter Try.func16, Try.ntmps16
    go_wp2_with fail
    refine (refcall_down g base s w h hd).mono ?_
    rintro e w1 ⟨rfl, rfl⟩
    go_wp2_with fail
    refine (reffall_not g _).mono ?_
    rintro e w1 ⟨rfl, rfl⟩
    go_wp2_with fail
    go_ret
    exact ⟨rfl, h, Keeps.refl _ _ _⟩
  | false =>
    cases hf : s.faults[hitAt s.faults s.calls]? with
    | none => exact reftrunc_goes n g base s w h hc hd hf
    | some f =>
      have e : s.trunc n = (9, s.fell f.2 []) := by simp [St.trunc, call_of_hit [] hd hf]
      have hkb : f.2 ≤ 9223372036854775807 := by
        obtain ⟨_, h⟩ := h
        exact (h.ok.keep f (List.mem_of_getElem? hf)).2
      have hmx : (0 : Int) ≤ max f.2 0 := by omega
      have hmx2 : (max f.2 0 : Int) ≤ 9223372036854775807 := by omega
      rw [e]
      go_enter Try.func16, Try.ntmps16
      go_wp2_with fail
      refine (refcall_up g base s w h hc hd).mono ?_
      rw [refAns_some hf]
      rintro e w1 ⟨rfl, hr, hk⟩
      have hfr := felled_room s f.2 []
      rw [room_nil] at hfr
      have HR := Lib.hid (And.intro hr (And.intro hk hfr))
      clear hr hk hfr h hf hd
      go_wp2_with fail
      refine (reffall_any _ g base _ _ HR.out.1 hmx hmx2).mono ?_
      rintro e w2 ⟨rfl, h2, k2⟩
      rw [HR.out.2.2] at h2
      have HE : Hid (RefAt w2 base g (s.fell f.2 []) ∧ Keeps [37] base w w2) := ⟨h2, HR.out.2.1.trans k2⟩
      clear h2 k2
      go_wp2_with fail
      go_ret
      exact ⟨rfl, HE.out⟩

set_option maxHeartbeats 1000000 in
theorem refup_any (A : Option Addr) (fs : List (Int × Int)) (c g base : Nat) (s : St) (w : World) (h : RefAt w base g s) (hbase : base ≤ w.heap.size)
    (hr : Reads w w.heap.size 2 A fs.length (faultCells fs)) (hl : fs.length ≤ 1000) (hk : ∀ f ∈ fs, -9223372036854775808 ≤ f.2 ∧ f.2 ≤ 9223372036854775807) :
    Calls Try.prog 18 #[.pointer (some ⟨g, 0, none⟩), .slice A fs.length c] w fun e w' => e = .returned (.tuple #[]) ∧ RefAt w' base g (s.up fs) ∧ Keeps [37] base w w' := by
  obtain ⟨i0, hi0, hz0, hz1, hz2⟩ := info_parts info44
  obtain ⟨vf, hd⟩ := h
  obtain ⟨-, p1, -, -, p4, p5⟩ := hd.cells
  have hlt := hd.lt
  have z1 := hd.blk.frozen 1
  have z4 := hd.blk.frozen 4
  have z5 := hd.blk.frozen 5
  have HD := Lib.hid hd
  clear hd
  go_enter Try.func18, Try.ntmps18
  go_wp2_with (at_builtin; refine wpList_append_any _ rfl (.tmp 7) (.tmp 8) _ rfl w.heap.size 44 i0 _ 2 16 Try.underlying22 hi0 hz0 hz1 hz2 rfl (by omega) (.slice (some ⟨w.heap.size, 0, none⟩) 0 0) 0 [] rfl (World.ownsRow_made w #[] 0 (Nat.le_refl _) (by simp [maxLen]) (by simp)) w.heap.size A fs.length c (faultCells fs) rfl (hr.alloc (Nat.le_refl _) _) (faultCells_one fs) (by simp only [maxLen]; omega) (by omega) (by simp) ?_; intro v1 w1 hown hg _; obtain ⟨A1, c1, rfl, -, -⟩ := own_slice hown; have hb : Below w.heap.size w w1 := ((Below.refl _ _).alloc (Nat.le_refl _) _).grown hg (by simp) (by simp [Value.ownBlock]); have e1 := (hb.cell (p := ⟨g, 1, none⟩) hlt).trans p1; have e4 := (hb.cell (p := ⟨g, 4, none⟩) hlt).trans p4; have e5 := (hb.cell (p := ⟨g, 5, none⟩) hlt).trans p5; have y1 := (hb.frozen (p := ⟨g, 1, none⟩) hlt).trans z1; have y4 := (hb.frozen (p := ⟨g, 4, none⟩) hlt).trans z4; have y5 := (hb.frozen (p := ⟨g, 5, none⟩) hlt).trans z5; have HX : Hid (RefIn w1 base g s vf ∧ Keeps [37] base w w1 ∧ w1.ownsRow base 44 2 (.slice A1 fs.length c1) fs.length (faultCells fs)) := ⟨HD.out.below hb, (Keeps.refl _ _ _).then_ hbase hb, own_base (by simpa using hown) hbase⟩; clear hown hg hb)
  go_end0
  obtain ⟨d1, k1, ho⟩ := HX.out
  have d2 := d1.setFaults (l := fs) ho hl hk
  have q2 := keeps_set (ts := [37]) d1.blk d1.base (by simp) 1 (.slice A1 fs.length c1)
  have d3 := d2.setCalls 0 (by omega)
  have q3 := keeps_set (ts := [37]) d2.blk d2.base (by simp) 4 (.int .i64 ((0 : Nat) : Int))
  have d4 := d3.setDown false
  have q4 := keeps_set (ts := [37]) d3.blk d3.base (by simp) 5 (.bool false)
  exact ⟨rfl, ⟨_, d4⟩, k1.trans (q2.trans (q3.trans q4))⟩
end Go.Proofs.Ytfmdloomjnmpgaa
