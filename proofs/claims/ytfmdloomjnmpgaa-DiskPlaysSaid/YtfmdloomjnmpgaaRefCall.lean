/-
  The reference's call and fall.
-/
import Derived.Test.YtfmdloomjnmpgaaRef
namespace Go.Proofs.Ytfmdloomjnmpgaa
open Go.RowKit

set_option maxHeartbeats 400000 in
theorem refcall_down (g base : Nat) (s : St) (w : World) (h : RefAt w base g s) (hd : s.down = true) :
    Calls Try.prog 26 #[.pointer (some ⟨g, 0, none⟩)] w fun e w' => e = .returned (.tuple #[.bool false, .int .i64 (-1)]) ∧ w' = w := by
  obtain ⟨vf, h⟩ := h
  obtain ⟨-, -, -, -, -, c5⟩ := h.cells
  rw [hd] at c5
  clear h hd
  go_enter Try.func26, Try.ntmps26
  go_wp2_with fail
  go_ret2
  exact ⟨rfl, rfl⟩

/-- What call answers, the disk being up. -/
def St.refAns (s : St) : Value :=
  match s.faults[hitAt s.faults s.calls]? with
  | none => .tuple #[.bool true, .int .i64 0]
  | some f => .tuple #[.bool false, .int .i64 (max f.2 0)]
theorem refAns_none {s : St} (h : s.faults[hitAt s.faults s.calls]? = none) : s.refAns = .tuple #[.bool true, .int .i64 0] := by simp only [St.refAns, h]
theorem refAns_some {s : St} {f : Int × Int} (h : s.faults[hitAt s.faults s.calls]? = some f) : s.refAns = .tuple #[.bool false, .int .i64 (max f.2 0)] := by simp only [St.refAns, h]

set_option maxHeartbeats 1000000 in
theorem refcall_up (g base : Nat) (s : St) (w : World) (h : RefAt w base g s) (hc : s.calls < 1000000) (hd : s.down = false) :
    Calls Try.prog 26 #[.pointer (some ⟨g, 0, none⟩)] w fun e w' => e = .returned s.refAns ∧ RefAt w' base g { s with calls := s.calls + 1 } ∧ Keeps [37] base w w' := by
  obtain ⟨vf, h⟩ := h
  obtain ⟨-, c1, -, -, c4, c5⟩ := h.cells
  have f4 := h.blk.frozen 4
  have hlt := h.lt
  have hfew := h.ok.few
  rw [hd] at c5
  obtain ⟨Af, cf, rfl, -, -⟩ := own_slice h.faults
  have h1 := h.setCalls (s.calls + 1) (by omega)
  have k1 := keeps_set (ts := [37]) h.blk h.base (by simp) 4 (.int .i64 ((s.calls + 1 : Nat) : Int))
  have hsz := size_setCell w ⟨g, 4, none⟩ (.int .i64 ((s.calls + 1 : Nat) : Int))
  rw [show ((s.calls + 1 : Nat) : Int) = (s.calls : Int) + 1 from rfl] at h1 k1 hsz
  have H := Lib.hid (And.intro h1 (And.intro k1 hd))
  clear h h1 k1 hd
  go_enter Try.func26, Try.ntmps26
  go_wp2_with fail
  generalize hwg : w.setCell ⟨g, 4, none⟩ (.int .i64 ((s.calls : Int) + 1)) = w1 at *
  obtain ⟨-, p1, -, -, -, -⟩ := H.out.1.cells
  go_loopw [5] (fun i wr => ∃ k : Nat, k ≤ s.faults.length ∧ k ≤ hitAt s.faults s.calls ∧ i = .int .i64 k ∧ wr = w1) (fun i _ => s.faults.length - (intOf i).toNat)
  case atStart => exact ⟨0, Nat.zero_le _, Nat.zero_le _, rfl, rfl⟩
  case round =>
    obtain ⟨k, hk, hk2, rfl, rfl⟩ := hrel
    by_cases hlt2 : k < s.faults.length
    · obtain ⟨b, rfl, had, h0, h1⟩ := own2_at H.out.1.faults hlt2
      simp only [] at h0 h1
      have hk0 : ((k : Int) < 0) = False := by simp
      cases ht : (s.faults[k].1 == (s.calls : Int)) with
      | true =>
        have hh := hit_at hlt2 hk2 ht
        have hf : s.faults[hitAt s.faults s.calls]? = some s.faults[k] := by
          have h3 : hitAt s.faults s.calls < s.faults.length := by
            unfold hitInt at hh
            split at hh
            · assumption
            · omega
          have h2 : hitAt s.faults s.calls = k := by simp only [hitInt, h3, if_true] at hh; omega
          rw [h2, List.getElem?_eq_getElem hlt2]
        have hmx : (if s.faults[k].2 < 0 then 0 else s.faults[k].2) = max s.faults[k].2 0 := by split <;> omega
        have HT := Lib.hid hf
        clear hh hf
        go_wp2_with fail
        go_region
        all_goals
          go_wp2
          go_ret2
          refine ⟨?_, ⟨_, H.out.1.drew⟩, H.out.2.1.drew⟩
          rw [refAns_some HT.out]
          rfl
      | false =>
        have hm := hit_more hlt2 hk2 ht
        have HT := Lib.hid hm
        clear hm
        go_wp2_with fail
        go_roundw
        case rel => exact ⟨k + 1, by omega, HT.out, by go_num, trivial⟩
        case measure => simp [intOf]; omega
    · have hn : s.faults[hitAt s.faults s.calls]? = none := List.getElem?_eq_none_iff.2 (by omega)
      have HT := Lib.hid hn
      clear hn
      go_wp2
      go_ret2
      rw [refAns_none HT.out]
      exact ⟨rfl, ⟨_, H.out.1⟩, H.out.2.1⟩

/-- What the fall leaves, the room's bytes in place. -/
def St.felled (s : St) (keep : Int) : St :=
  { s with b := s.b.take (s.synced + min keep.toNat (s.b.length - s.synced)), synced := s.synced + min keep.toNat (s.b.length - s.synced), down := true }

set_option maxHeartbeats 1000000 in
theorem reffall_not (g : Nat) (w : World) :
    Calls Try.prog 27 #[.pointer (some ⟨g, 0, none⟩), .int .i64 (-1)] w fun e w' => e = .returned (.int .i64 9) ∧ w' = w := by
  go_enter Try.func27, Try.ntmps27
  go_wp2_with fail
  go_ret
  exact ⟨rfl, rfl⟩

theorem bstr_take (l : List UInt8) (n : Nat) : (bstr l).extract 0 n = bstr (l.take n) := by
  apply ByteArray.ext
  simp [bstr]

set_option maxHeartbeats 1000000 in
theorem reffall_any (keep : Int) (g base : Nat) (s : St) (w : World) (h : RefAt w base g s) (h0 : 0 ≤ keep) (h1 : keep ≤ 9223372036854775807) :
    Calls Try.prog 27 #[.pointer (some ⟨g, 0, none⟩), .int .i64 keep] w fun e w' => e = .returned (.int .i64 9) ∧ RefAt w' base g (s.felled keep) ∧ Keeps [37] base w w' := by
  obtain ⟨vf, h⟩ := h
  obtain ⟨-, -, c2, c3, -, c5⟩ := h.cells
  have f2 := h.blk.frozen 2
  have f3 := h.blk.frozen 3
  have f5 := h.blk.frozen 5
  have hlt := h.lt
  have hs1 := h.ok.synced
  have hs2 := h.ok.size
  have hs3 := h.ok.most
  obtain ⟨m0, hm0⟩ : ∃ m0 : Nat, m0 = min keep.toNat s.b.length := ⟨_, rfl⟩
  obtain ⟨q, hq⟩ : ∃ q : Nat, q = s.synced + min keep.toNat (s.b.length - s.synced) := ⟨_, rfl⟩
  have hmin : (if (s.b.length : Int) < keep then (s.b.length : Int) else keep) = (m0 : Int) := by split <;> omega
  have hmin2 : (if (s.synced : Int) + (m0 : Int) < (s.b.length : Int) then (s.synced : Int) + (m0 : Int) else (s.b.length : Int)) = (q : Int) := by split <;> omega
  have hext : (bstr s.b).extract 0 q = bstr (s.b.take q) := bstr_take _ _
  have hql : q ≤ s.b.length := by omega
  have hsz : (bstr s.b).size = s.b.length := rfl
  have hsz2 : (bstr (s.b.take q)).size = q := by simp [bstr, ByteArray.size]; omega
  have hfin : Hid (RefIn (((w.drew.setCell ⟨g, 2, none⟩ (.string (bstr (s.b.take q)))).setCell ⟨g, 3, none⟩ (.int .i64 q)).setCell ⟨g, 5, none⟩ (.bool true)) base g (s.felled keep) vf ∧
      Keeps [37] base w (((w.drew.setCell ⟨g, 2, none⟩ (.string (bstr (s.b.take q)))).setCell ⟨g, 3, none⟩ (.int .i64 q)).setCell ⟨g, 5, none⟩ (.bool true))) := by
    have hlen : (s.b.take q).length = q := by simp; omega
    have h1 := h.drew
    have k1 := (Keeps.refl [37] base w).drew.trans (keeps_set (ts := [37]) h1.blk h1.base (by simp) 2 (.string (bstr (s.b.take q))))
    have h2 := h1.setBytes (s.b.take q) (by rw [hlen]; omega) (by rw [hlen]; omega)
    have k2 := k1.trans (keeps_set (ts := [37]) h2.blk h2.base (by simp) 3 (.int .i64 q))
    have h3 := h2.setSynced q (by rw [hlen]; exact Nat.le_refl _)
    have k3 := k2.trans (keeps_set (ts := [37]) h3.blk h3.base (by simp) 5 (.bool true))
    have h4 := h3.setDown true
    have e : s.felled keep = { s with b := s.b.take q, synced := q, down := true } := by simp only [St.felled, ← hq]
    rw [e]
    exact ⟨h4, k3⟩
  clear h hm0 hq
  go_enter Try.func27, Try.ntmps27
  go_wp2_with fail
  go_region
  all_goals
    go_wp2_with fail
    go_ret
    exact ⟨rfl, ⟨_, hfin.out.1⟩, hfin.out.2⟩
end Go.Proofs.Ytfmdloomjnmpgaa
