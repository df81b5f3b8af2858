/-
  The disk's other calls: Truncate, Read, Up, New.
-/
import Derived.Test.YtfmdloomjnmpgaaOps
import Derived.Laws.BytesArg
namespace Go.Proofs.Ytfmdloomjnmpgaa
open Go.RowKit

set_option maxHeartbeats 400000 in
theorem trunc_stops (n : Int) (g base : Nat) (s : St) (w : World) (h : DiskAt w base g s) (hbase : base ≤ w.heap.size) (hc : s.calls < 1000000) (h9 : (s.call []).1 = 9) :
    Calls Try.prog 15 #[.pointer (some ⟨g, 0, none⟩), .int .i64 n] w fun e w' => e = .returned (.int .i64 9) ∧ DiskAt w' base g (s.call []).2 ∧ Keeps [52, 5] base w w' := by
  have H9 := Lib.hid h9
  clear h9
  go_enter Try.func15, Try.ntmps15
  go_wp2_with fail
  refine (call_any none [] 0 g base s w h hbase hc (reads_nil _ _) (fun _ _ h => by cases h) (by simp) (by simp)).mono ?_
  rintro e w1 ⟨rfl, h1⟩
  rw [H9.out]
  have H1 := Lib.hid h1
  clear h1
  go_wp2_with fail
  go_ret
  exact ⟨rfl, H1.out⟩

set_option maxHeartbeats 400000 in
theorem trunc_arg (n : Int) (g base : Nat) (s : St) (w : World) (h : DiskAt w base g s) (hbase : base ≤ w.heap.size) (hc : s.calls < 1000000) (hd0 : s.down = false) (hf0 : s.faults[hitAt s.faults s.calls]? = none) (hn : n < 0 ∨ (s.b.length : Int) < n) :
    Calls Try.prog 15 #[.pointer (some ⟨g, 0, none⟩), .int .i64 n] w fun e w' => e = .returned (.int .i64 1) ∧ DiskAt w' base g { s with calls := s.calls + 1 } ∧ Keeps [52] base w w' := by
  have H0 := Lib.hid (And.intro hd0 hf0)
  clear hd0 hf0
  by_cases hneg : n < 0
  · clear hn
    go_enter Try.func15, Try.ntmps15
    go_wp2_with fail
    refine (call_goes none 0 0 g base s w h hbase hc H0.out.1 H0.out.2).mono ?_
    rintro e w1 ⟨rfl, h1, hk1, -⟩
    have H1 := Lib.hid (And.intro h1 hk1)
    clear h1 hk1
    go_wp2_with fail
    go_ret
    exact ⟨rfl, H1.out⟩
  · have hbig : (s.b.length : Int) < n := by omega
    clear hn
    go_enter Try.func15, Try.ntmps15
    go_wp2_with fail
    refine (call_goes none 0 0 g base s w h hbase hc H0.out.1 H0.out.2).mono ?_
    rintro e w1 ⟨rfl, h1, hk1, -⟩
    obtain ⟨vb, vf, hd⟩ := h1
    obtain ⟨Ab, cb, rfl, -, -⟩ := own_slice hd.bytes
    obtain ⟨p0, -, -, -, -, -⟩ := hd.cells
    have H1 := Lib.hid (And.intro hd hk1)
    clear hd hk1
    go_wp2_with fail
    go_ret
    exact ⟨rfl, ⟨_, _, H1.out.1⟩, H1.out.2⟩

set_option maxHeartbeats 400000 in
theorem trunc_does (n : Nat) (g base : Nat) (s : St) (w : World) (h : DiskAt w base g s) (hbase : base ≤ w.heap.size) (hc : s.calls < 1000000) (hd0 : s.down = false) (hf0 : s.faults[hitAt s.faults s.calls]? = none) (hn : n ≤ s.b.length) :
    Calls Try.prog 15 #[.pointer (some ⟨g, 0, none⟩), .int .i64 n] w fun e w' => e = .returned (.int .i64 0) ∧ DiskAt w' base g { s with calls := s.calls + 1, b := s.b.take n, synced := min s.synced n } ∧ Keeps [52] base w w' := by
  have H0 := Lib.hid (And.intro hd0 hf0)
  clear hd0 hf0
  go_enter Try.func15, Try.ntmps15
  go_wp2_with fail
  refine (call_goes none 0 0 g base s w h hbase hc H0.out.1 H0.out.2).mono ?_
  rintro e w1 ⟨rfl, h1, hk1, -⟩
  obtain ⟨vb, vf, hd⟩ := h1
  obtain ⟨Ab, cb, rfl, hcb, -⟩ := own_slice hd.bytes
  obtain ⟨p0, p1, -, -, -, -⟩ := hd.cells
  have hncb : n ≤ cb := Nat.le_trans hn hcb
  have hlt := hd.lt
  have hbase1 : base ≤ w1.heap.size := Nat.le_trans hbase hk1.below.size
  have hR : Hid (Reads w1 w1.heap.size 1 Ab n (byteV (s.b.take n))) := by
    have := (Reads.of_own hd.bytes).take (m := n) hn
    rw [Nat.mul_one, ← byteV_take] at this
    exact this
  obtain ⟨mm, hmm⟩ : ∃ mm : Nat, mm = min s.synced n := ⟨_, rfl⟩
  have hmin : (if (n : Int) < (s.synced : Int) then (n : Int) else (s.synced : Int)) = (mm : Int) := by split <;> omega
  have hminN : (if n < s.synced then (n : Int) else (s.synced : Int)) = (mm : Int) := by split <;> omega
  have z0 := hd.blk.frozen 0
  have z1 := hd.blk.frozen 1
  have H1 := Lib.hid (And.intro hd (And.intro hk1 hmm))
  have hq := hd.ok.size
  have hq2 := hd.ok.most
  clear hd hk1 hmm
  go_wp2_with fail
  refine (clone_bytes Ab n cb _ _ hR.out (byteV_one _) (by omega)).mono ?_
  rintro e w2 ⟨v2, rfl, hown, hb⟩
  obtain ⟨A2, c2, rfl, -, -⟩ := own_slice hown
  obtain ⟨hd, hk, hmm⟩ := H1.out
  have hd2 := hd.below hb
  have hk2 := hk.then_ hbase1 hb
  have hlen : (s.b.take n).length = n := by rw [List.length_take]; omega
  have ho : w2.ownsRow base 5 1 (.slice A2 n c2) (s.b.take n).length (byteV (s.b.take n)) := by
    rw [hlen]
    exact own_base hown hbase1
  have hsy : mm ≤ (s.b.take n).length := by omega
  have e0 := (hb.cell (p := ⟨g, 0, none⟩) hlt).trans p0
  have e1 := (hb.cell (p := ⟨g, 1, none⟩) hlt).trans p1
  have y0 := (hb.frozen (p := ⟨g, 0, none⟩) hlt).trans z0
  have y1 := (hb.frozen (p := ⟨g, 1, none⟩) hlt).trans z1
  have hfin : Hid (DiskIn ((w2.setCell ⟨g, 0, none⟩ (.slice A2 n c2)).setCell ⟨g, 1, none⟩ (.int .i64 mm)) base g { s with calls := s.calls + 1, b := s.b.take n, synced := mm } (.slice A2 n c2) vf ∧ Keeps [52] base w ((w2.setCell ⟨g, 0, none⟩ (.slice A2 n c2)).setCell ⟨g, 1, none⟩ (.int .i64 mm))) := by
    have d1 := hd2.blk.set_ 0 (.slice A2 n c2)
    have d2 := Blk.set_ d1 1 (.int .i64 mm)
    have k1 := keeps_set (ts := [52]) hd2.blk hd2.base (by simp) 0 (.slice A2 n c2)
    have k2 := keeps_set (ts := [52]) d1 hd2.base (by simp) 1 (.int .i64 mm)
    have k1' := keeps_set (ts := [52]) hd2.blk hd2.base (by simp) 0 (.slice A2 n c2)
    have k2' := keeps_set (ts := [52]) d1 hd2.base (by simp) 1 (.int .i64 mm)
    exact ⟨⟨d2, (k1'.trans k2').own ho (by simp), (k1'.trans k2').own hd2.faults (by simp), hd2.base, ⟨hsy, by rw [hlen]; show n ≤ s.size; omega, hd2.ok.most, hd2.ok.few, hd2.ok.calls, hd2.ok.keep⟩⟩, hk2.trans (k1.trans k2)⟩
  clear hown hb p0 p1 z0 z1 hd hk hd2 hk2 ho hlen
  clear hmm
  go_wp2_with fail
  go_ret
  refine ⟨rfl, ?_⟩
  rw [← H1.out.2.2]
  exact ⟨⟨_, _, hfin.out.1⟩, hfin.out.2⟩

theorem trunc_any (n : Int) (g base : Nat) (s : St) (w : World) (h : DiskAt w base g s) (hbase : base ≤ w.heap.size) (hc : s.calls < 1000000) :
    Calls Try.prog 15 #[.pointer (some ⟨g, 0, none⟩), .int .i64 n] w fun e w' => e = .returned (.int .i64 (s.trunc n).1) ∧ DiskAt w' base g (s.trunc n).2 ∧ Keeps [52, 5] base w w' := by
  rcases call_code s [] with h9 | ⟨h0, hd0, hf0⟩
  · refine (trunc_stops n g base s w h hbase hc h9).mono ?_
    rintro e w' ⟨rfl, h1⟩
    rw [show s.trunc n = s.call [] by simp [St.trunc, h9], h9]
    exact ⟨rfl, h1⟩
  · by_cases hn : n < 0 ∨ (s.b.length : Int) < n
    · refine (trunc_arg n g base s w h hbase hc hd0 hf0 hn).mono ?_
      rintro e w' ⟨rfl, h1, h2⟩
      rw [show s.trunc n = (1, { s with calls := s.calls + 1 }) by simp [St.trunc, h0, hn]]
      exact ⟨rfl, h1, h2.wide (by simp)⟩
    · obtain ⟨m, rfl⟩ := Int.eq_ofNat_of_zero_le (show 0 ≤ n by omega)
      refine (trunc_does m g base s w h hbase hc hd0 hf0 (by omega)).mono ?_
      rintro e w' ⟨rfl, h1, h2⟩
      rw [show s.trunc (m : Int) = (0, { s with calls := s.calls + 1, b := s.b.take m, synced := min s.synced m }) by simp only [St.trunc, h0]; rw [if_neg (by decide), if_neg hn]; simp]
      exact ⟨rfl, h1, h2.wide (by simp)⟩

set_option maxHeartbeats 400000 in
theorem read_arg (a n : Int) (g base : Nat) (s : St) (w : World) (h : DiskAt w base g s) (ha : -9223372036854775808 ≤ a ∧ a ≤ 9223372036854775807) (hn : -9223372036854775808 ≤ n ∧ n ≤ 9223372036854775807) (hbad : a < 0 ∨ n < 0 ∨ (s.b.length : Int) < a + n) :
    Calls Try.prog 19 #[.pointer (some ⟨g, 0, none⟩), .int .i64 a, .int .i64 n] w fun e w' => e = .returned (.tuple #[.slice none 0 0, .int .i64 1]) ∧ w' = w := by
  obtain ⟨vb, vf, hd⟩ := h
  obtain ⟨Ab, cb, rfl, -, -⟩ := own_slice hd.bytes
  obtain ⟨p0, -, -, -, -, -⟩ := hd.cells
  have q1 := hd.ok.size
  have q2 := hd.ok.most
  clear hd
  by_cases h1 : a < 0
  · clear hbad
    go_enter Try.func19, Try.ntmps19
    go_wp2_with fail
    go_ret2
    exact ⟨rfl, rfl⟩
  · by_cases h2 : n < 0
    · clear hbad
      go_enter Try.func19, Try.ntmps19
      go_wp2_with fail
      go_ret2
      exact ⟨rfl, rfl⟩
    · have h3 : (s.b.length : Int) < a + n := by omega
      clear hbad
      by_cases h4 : (s.b.length : Int) < n
      · go_enter Try.func19, Try.ntmps19
        go_wp2_with fail
        go_ret2
        exact ⟨rfl, rfl⟩
      · have h5 : (s.b.length : Int) - n < a := by omega
        go_enter Try.func19, Try.ntmps19
        go_wp2_with fail
        go_ret2
        exact ⟨rfl, rfl⟩

set_option maxHeartbeats 400000 in
theorem read_does (a n : Nat) (g base : Nat) (s : St) (w : World) (h : DiskAt w base g s) (hok : a + n ≤ s.b.length) :
    Calls Try.prog 19 #[.pointer (some ⟨g, 0, none⟩), .int .i64 a, .int .i64 n] w fun e w' => ∃ A c, e = .returned (.tuple #[.slice A n c, .int .i64 0]) ∧ w'.ownsRow w.heap.size 5 1 (.slice A n c) n (byteV ((s.b.drop a).take n)) ∧ Below w.heap.size w w' := by
  obtain ⟨vb, vf, hd⟩ := h
  obtain ⟨Ab, cb, rfl, hcb, -⟩ := own_slice hd.bytes
  obtain ⟨p0, -, -, -, -, -⟩ := hd.cells
  have q1 := hd.ok.size
  have q2 := hd.ok.most
  have h4 : ¬ (s.b.length : Int) < (n : Int) := by omega
  have h5 : ¬ (s.b.length : Int) - (n : Int) < (a : Int) := by omega
  have hR : Reads w w.heap.size 1 (if cb = a then Ab else Ab.map (·.add a)) n (byteV ((s.b.drop a).take n)) := by
    have h1 := ((Reads.of_own hd.bytes).cut (k := a) (by omega) hcb).take (m := n) (by omega)
    simp only [Nat.mul_one] at h1
    have e : byteV ((s.b.drop a).take n) = List.take n (List.drop a (byteV s.b)) := by simp [byteV, List.map_take, List.map_drop]
    rw [e]
    exact h1
  clear hd
  by_cases hca : cb = a
  · rw [if_pos hca] at hR
    have HR := Lib.hid hR
    have HC := Lib.hid hca
    clear hR hca
    go_enter Try.func19, Try.ntmps19
    go_wp2_with fail
    all_goals
      first
        | exact absurd HC.out (by assumption)
        | (refine (clone_bytes _ n _ _ _ HR.out (byteV_one _) (by omega)).mono ?_
           rintro e w2 ⟨v2, rfl, hown, hb⟩
           obtain ⟨A2, c2, rfl, -, -⟩ := own_slice hown
           have HO := Lib.hid (And.intro hown hb)
           clear hown hb
           go_wp2_with fail
           go_ret2
           exact ⟨A2, c2, rfl, HO.out⟩)
  · rw [if_neg hca] at hR
    have HR := Lib.hid hR
    clear hR
    go_enter Try.func19, Try.ntmps19
    go_wp2_with fail
    refine (clone_bytes _ n _ _ _ HR.out (byteV_one _) (by omega)).mono ?_
    rintro e w2 ⟨v2, rfl, hown, hb⟩
    obtain ⟨A2, c2, rfl, -, -⟩ := own_slice hown
    have HO := Lib.hid (And.intro hown hb)
    clear hown hb
    go_wp2_with fail
    go_ret2
    exact ⟨A2, c2, rfl, HO.out⟩

set_option maxHeartbeats 400000 in
theorem sync_down (g base : Nat) (s : St) (w : World) (h : DiskAt w base g s) (hd : s.down = true) : Calls Try.prog 13 #[.pointer (some ⟨g, 0, none⟩)] w fun e w' => e = .returned (.int .i64 9) ∧ w' = w := by
  have H := Lib.hid (And.intro h hd)
  clear h hd
  go_enter Try.func13, Try.ntmps13
  go_wp2_with fail
  refine (call_down none 0 0 g base s w H.out.1 H.out.2).mono ?_
  rintro e w1 ⟨rfl, rfl⟩
  go_wp2_with fail
  go_ret
  exact ⟨rfl, rfl⟩

/-- 'string(x)' of bytes. -/
theorem conv_reads {w : World} {B n c : Nat} {A : Option Addr} {l : List UInt8} (h : Reads w B 1 A n (byteV l)) :
    (convert 29 9 (.slice A n c)).run Try.prog w = .ok (.string ⟨l.toArray⟩) w := by
  have hn : n = l.length := by have := h.1; rw [byteV_len] at this; omega
  rcases A with _ | ad
  · have : l = [] := by
      rcases Nat.eq_zero_or_pos n with h0 | h0
      · exact List.eq_nil_of_length_eq_zero (by omega)
      · obtain ⟨_, he, _⟩ := h.2 h0
        cases he
    subst this
    exact run_convert_bytes_nil w 29 5 Try.underlying29 Try.underlying5 n c 9 Try.underlying9
  · have hl : (loadCells ad n).run Try.prog w = .ok ((l.map fun c => (c.toNat : Int)).map (Value.int .u8)).toArray w := by
      have hc : ∀ j u, (byteV l)[j]? = some u → w.cell? (ad.add j) = some u := by
        rcases Nat.eq_zero_or_pos n with h0 | h0
        · have : l = [] := List.eq_nil_of_length_eq_zero (by omega)
          subst this
          intro j u hu
          simp [byteV] at hu
        · obtain ⟨ad', he, _, hcc⟩ := h.2 h0
          injection he with he
          subst he
          exact hcc
      have := run_loadCells_list (P := Try.prog) w ad (byteV l) hc
      rw [byteV_len, ← hn] at this
      rw [this]
      simp [byteV]
    rw [run_convert_bytes_string w 29 9 5 _ n c Try.underlying29 Try.underlying5 Try.underlying9, run_bytesToString w _ n c _ hl, foldl_push_bytes]
    simp [ByteArray.empty, ByteArray.emptyWithCapacity, List.map_map, Function.comp_def]
    rfl
end Go.Proofs.Ytfmdloomjnmpgaa
