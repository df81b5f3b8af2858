/-
  The reference's Append, Sync, Truncate, Up: the same plain state as the program's.
-/
import Derived.Test.YtfmdloomjnmpgaaRefCall
namespace Go.Proofs.Ytfmdloomjnmpgaa
open Go.RowKit

theorem bstr_append (l m : List UInt8) : bstr l ++ bstr m = bstr (l ++ m) := by simp [bstr, ByteArray.mk_append_mk]
theorem bstr_size (l : List UInt8) : (bstr l).size = l.length := rfl
theorem room_nil (s : St) : s.room [] = s.b := by simp [St.room]
theorem felled_room (s : St) (keep : Int) (bs : List UInt8) : ({ s with b := s.room bs, calls := s.calls + 1 } : St).felled (max keep 0) = s.fell keep bs := by
  simp only [St.felled, St.fell, St.kept]
theorem call_of_down {s : St} (bs : List UInt8) (h : s.down = true) : s.call bs = (9, s) := by simp [St.call, h]
theorem call_of_hit {s : St} (bs : List UInt8) {f : Int × Int} (h : s.down = false) (hf : s.faults[hitAt s.faults s.calls]? = some f) : s.call bs = (9, s.fell f.2 bs) := by simp [St.call, h, hf]
theorem call_of_none {s : St} (bs : List UInt8) (h : s.down = false) (hf : s.faults[hitAt s.faults s.calls]? = none) : s.call bs = (0, { s with calls := s.calls + 1 }) := by simp [St.call, h, hf]

set_option maxHeartbeats 1000000 in
theorem refappend_down (bs : List UInt8) (g base : Nat) (s : St) (w : World) (h : RefAt w base g s) (hd : s.down = true) :
    Calls Try.prog 12 #[.pointer (some ⟨g, 0, none⟩), .string (bstr bs)] w fun e w' => e = .returned (.int .i64 9) ∧ w' = w := by
  go_enter Try.func12, Try.ntmps12
  go_wp2_with fail
  refine (refcall_down g base s w h hd).mono ?_
  rintro e w1 ⟨rfl, rfl⟩
  go_wp2_with fail
  refine (reffall_not g _).mono ?_
  rintro e w1 ⟨rfl, rfl⟩
  go_wp2_with fail
  go_ret
  exact ⟨rfl, rfl⟩

set_option maxHeartbeats 1000000 in
theorem refappend_hit (bs : List UInt8) (g base : Nat) (s : St) (f : Int × Int) (w : World) (h : RefAt w base g s) (hc : s.calls < 1000000) (hd : s.down = false) (hf : s.faults[hitAt s.faults s.calls]? = some f) (hb : bs.length ≤ 1000000) :
    Calls Try.prog 12 #[.pointer (some ⟨g, 0, none⟩), .string (bstr bs)] w fun e w' => e = .returned (.int .i64 9) ∧ RefAt w' base g (s.fell f.2 bs) ∧ Keeps [37] base w w' := by
  have hkb : f.2 ≤ 9223372036854775807 := by
    obtain ⟨_, h⟩ := h
    exact (h.ok.keep f (List.mem_of_getElem? hf)).2
  have hmx : (0 : Int) ≤ max f.2 0 := by omega
  have hmx2 : (max f.2 0 : Int) ≤ 9223372036854775807 := by omega
  go_enter Try.func12, Try.ntmps12
  go_wp2_with fail
  refine (refcall_up g base s w h hc hd).mono ?_
  rw [refAns_some hf]
  rintro e w1 ⟨rfl, ⟨vf, hr⟩, hk⟩
  obtain ⟨c0, -, c2, -, -, -⟩ := hr.cells
  have f2 := hr.blk.frozen 2
  have hlt := hr.lt
  have hs1 := hr.ok.synced
  have hs2 := hr.ok.size
  have hs3 := hr.ok.most
  simp only [] at c0 c2 hs1 hs2 hs3
  obtain ⟨mx, hm⟩ : ∃ mx : Int, mx = max f.2 0 := ⟨_, rfl⟩
  obtain ⟨r, hr1⟩ : ∃ r : Nat, r = min bs.length (s.size - s.b.length) := ⟨_, rfl⟩
  have hrl : r ≤ bs.length := by omega
  have hmin : (if (s.size : Int) - (s.b.length : Int) < (bs.length : Int) then (s.size : Int) - (s.b.length : Int) else (bs.length : Int)) = (r : Int) := by split <;> omega
  have hw : IntKind.i64.wrap ((s.size : Int) - (s.b.length : Int)) = (s.size : Int) - (s.b.length : Int) := IntWalk.i64_in _ (by omega)
  have hext : (bstr bs).extract 0 r = bstr (bs.take r) := bstr_take _ _
  have happ : bstr s.b ++ bstr (bs.take r) = bstr (s.room bs) := by rw [bstr_append, St.room, hr1]
  have hz1 := bstr_size s.b
  have hz2 := bstr_size bs
  have hz3 : (bstr (bs.take r)).size = r := by rw [bstr_size]; simp; omega
  have hz4 : ¬ 9223372036854775807 < s.b.length + r := by omega
  have hlen : (s.room bs).length = s.b.length + r := by simp [St.room]; omega
  have k1 := hk.trans (keeps_set (ts := [37]) hr.blk hr.base (by simp) 2 (.string (bstr (s.room bs))))
  have h1 := hr.setBytes (s.room bs) (by rw [hlen]; simp only []; omega) (by rw [hlen]; simp only []; omega)
  have HX : Hid (RefIn (w1.setCell ⟨g, 2, none⟩ (.string (bstr (s.room bs)))) base g { s with b := s.room bs, calls := s.calls + 1 } vf ∧ Keeps [37] base w (w1.setCell ⟨g, 2, none⟩ (.string (bstr (s.room bs))))) := ⟨h1, k1⟩
  rw [← hm] at hmx hmx2 ⊢
  have HM := Lib.hid (And.intro hm hr1)
  clear hm hr1 h1 k1 hr hk h hf hkb
  go_wp2_with fail
  go_region
  all_goals
    go_wp2_with fail
    refine (reffall_any mx g base _ _ ⟨_, HX.out.1.drew⟩ hmx hmx2).mono ?_
    rintro e w2 ⟨rfl, h2, k2⟩
    rw [HM.out.1, felled_room] at h2
    have HE : Hid (RefAt w2 base g (s.fell f.2 bs) ∧ Keeps [37] base w w2) := ⟨h2, HX.out.2.drew.trans k2⟩
    clear h2 k2
    go_wp2_with fail
    go_ret
    exact ⟨rfl, HE.out⟩

set_option maxHeartbeats 1000000 in
theorem refappend_goes (bs : List UInt8) (g base : Nat) (s : St) (w : World) (h : RefAt w base g s) (hc : s.calls < 1000000) (hd : s.down = false) (hf : s.faults[hitAt s.faults s.calls]? = none) (hb : bs.length ≤ 1000000) :
    Calls Try.prog 12 #[.pointer (some ⟨g, 0, none⟩), .string (bstr bs)] w fun e w' => e = .returned (.int .i64 (s.append bs).1) ∧ RefAt w' base g (s.append bs).2 ∧ Keeps [37] base w w' := by
  go_enter Try.func12, Try.ntmps12
  go_wp2_with fail
  refine (refcall_up g base s w h hc hd).mono ?_
  rw [refAns_none hf]
  rintro e w1 ⟨rfl, ⟨vf, hr⟩, hk⟩
  obtain ⟨c0, -, c2, -, -, -⟩ := hr.cells
  have f2 := hr.blk.frozen 2
  have hlt := hr.lt
  have hs1 := hr.ok.synced
  have hs2 := hr.ok.size
  have hs3 := hr.ok.most
  simp only [] at c0 c2 hs1 hs2 hs3
  have hw : IntKind.i64.wrap ((s.size : Int) - (s.b.length : Int)) = (s.size : Int) - (s.b.length : Int) := IntWalk.i64_in _ (by omega)
  have hz1 := bstr_size s.b
  have hz2 := bstr_size bs
  have hz4 : ¬ 9223372036854775807 < s.b.length + bs.length := by omega
  have happ := bstr_append s.b bs
  by_cases hfull : s.size - s.b.length < bs.length
  · have ht : decide ((s.size : Int) - (s.b.length : Int) < (bs.length : Int)) = true := decide_eq_true (by omega)
    have ha : s.append bs = (8, { s with calls := s.calls + 1 }) := by simp [St.append, call_of_none bs hd hf, hfull]
    have HA := Lib.hid ha
    have HR := Lib.hid (And.intro hr hk)
    clear hr hk h hf hd ha
    go_wp2_with fail
    go_quiet (fail)
    go_wp2_with fail
    go_ret
    rw [HA.out]
    exact ⟨rfl, ⟨_, HR.out.1.drewN _⟩, HR.out.2.drewN _⟩
  · have ht : decide ((s.size : Int) - (s.b.length : Int) < (bs.length : Int)) = false := decide_eq_false (by omega)
    have ha : s.append bs = (0, { s with b := s.b ++ bs, calls := s.calls + 1 }) := by simp [St.append, call_of_none bs hd hf, hfull]
    have HA := Lib.hid ha
    have hlen : (s.b ++ bs).length = s.b.length + bs.length := by simp
    have HX : Hid (∀ nq, RefIn ((w1.drewN nq).setCell ⟨g, 2, none⟩ (.string (bstr (s.b ++ bs)))) base g { s with b := s.b ++ bs, calls := s.calls + 1 } vf ∧ Keeps [37] base w ((w1.drewN nq).setCell ⟨g, 2, none⟩ (.string (bstr (s.b ++ bs))))) :=
      fun nq => ⟨(hr.drewN nq).setBytes (s.b ++ bs) (by rw [hlen]; simp only []; omega) (by rw [hlen]; simp only []; omega), (hk.drewN nq).trans (keeps_set (ts := [37]) (hr.drewN nq).blk hr.base (by simp) 2 _)⟩
    clear hr hk h hf hd ha
    go_wp2_with fail
    go_quiet (fail)
    go_wp2_with fail
    go_ret
    rw [HA.out]
    exact ⟨rfl, ⟨_, (HX.out _).1⟩, (HX.out _).2⟩

theorem refappend_any (bs : List UInt8) (g base : Nat) (s : St) (w : World) (h : RefAt w base g s) (hc : s.calls < 1000000) (hb : bs.length ≤ 1000000) :
    Calls Try.prog 12 #[.pointer (some ⟨g, 0, none⟩), .string (bstr bs)] w fun e w' => e = .returned (.int .i64 (s.append bs).1) ∧ RefAt w' base g (s.append bs).2 ∧ Keeps [37] base w w' := by
  cases hd : s.down with
  | true =>
    refine (refappend_down bs g base s w h hd).mono ?_
    rintro e w' ⟨rfl, rfl⟩
    have e : s.append bs = (9, s) := by simp [St.append, call_of_down bs hd]
    rw [e]
    exact ⟨rfl, h, Keeps.refl _ _ _⟩
  | false =>
    cases hf : s.faults[hitAt s.faults s.calls]? with
    | none => exact refappend_goes bs g base s w h hc hd hf hb
    | some f =>
      refine (refappend_hit bs g base s f w h hc hd hf hb).mono ?_
      rintro e w' ⟨rfl, h1, h2⟩
      have e : s.append bs = (9, s.fell f.2 bs) := by simp [St.append, call_of_hit bs hd hf]
      rw [e]
      exact ⟨rfl, h1, h2⟩

set_option maxHeartbeats 1000000 in
theorem refsync_any (g base : Nat) (s : St) (w : World) (h : RefAt w base g s) (hc : s.calls < 1000000) :
    Calls Try.prog 14 #[.pointer (some ⟨g, 0, none⟩)] w fun e w' => e = .returned (.int .i64 s.sync.1) ∧ RefAt w' base g s.sync.2 ∧ Keeps [37] base w w' := by
  cases hd : s.down with
  | true =>
    have e : s.sync = (9, s) := by simp [St.sync, call_of_down [] hd]
    rw [e]
    go_enter Try.func14, Try.ntmps14
    go_wp2_with fail
    refine (refcall_down g base s w h hd).mono ?_
    rintro e w1 ⟨rfl, rfl⟩
    go_wp2_with fail
    refine (reffall_not g _).mono ?_
    rintro e w1 ⟨rfl, rfl⟩
    go_wp2_with fail
    go_ret
    exact ⟨rfl, h, Keeps.refl _ _ _⟩
  | false =>
    cases hf : s.faults[hitAt s.faults s.calls]? with
    | none =>
      have e : s.sync = (0, { s with synced := s.b.length, calls := s.calls + 1 }) := by simp [St.sync, call_of_none [] hd hf]
      rw [e]
      go_enter Try.func14, Try.ntmps14
      go_wp2_with fail
      refine (refcall_up g base s w h hc hd).mono ?_
      rw [refAns_none hf]
      rintro e w1 ⟨rfl, ⟨vf, hr⟩, hk⟩
      obtain ⟨-, -, c2, c3, -, -⟩ := hr.cells
      have f3 := hr.blk.frozen 3
      have hlt := hr.lt
      simp only [] at c2 c3
      have hz1 := bstr_size s.b
      have HX : Hid (RefIn (w1.setCell ⟨g, 3, none⟩ (.int .i64 s.b.length)) base g { s with synced := s.b.length, calls := s.calls + 1 } vf ∧ Keeps [37] base w (w1.setCell ⟨g, 3, none⟩ (.int .i64 s.b.length))) :=
        ⟨hr.setSynced s.b.length (Nat.le_refl _), hk.trans (keeps_set (ts := [37]) hr.blk hr.base (by simp) 3 _)⟩
      clear hr hk h hf hd
      go_wp2_with fail
      go_ret
      exact ⟨rfl, ⟨_, HX.out.1⟩, HX.out.2⟩
    | some f =>
      have e : s.sync = (9, s.fell f.2 []) := by simp [St.sync, call_of_hit [] hd hf]
      have hkb : f.2 ≤ 9223372036854775807 := by
        obtain ⟨_, h⟩ := h
        exact (h.ok.keep f (List.mem_of_getElem? hf)).2
      have hmx : (0 : Int) ≤ max f.2 0 := by omega
      have hmx2 : (max f.2 0 : Int) ≤ 9223372036854775807 := by omega
      rw [e]
      go_enter Try.func14, Try.ntmps14
      go_wp2_with fail
      refine (refcall_up g base s w h hc hd).mono ?_
      rw [refAns_some hf]
      rintro e w1 ⟨rfl, hr, hk⟩
      have hfr := felled_room s f.2 []
      rw [room_nil] at hfr
      have HR := Lib.hid (And.intro hr (And.intro hk hfr))
      clear hr hk hfr h hf hd
      go_wp2_with fail
      refine (reffall_any _ g base _ _ HR.out.1 hmx hmx2).mono ?_
      rintro e w2 ⟨rfl, h2, k2⟩
      rw [HR.out.2.2] at h2
      have HE : Hid (RefAt w2 base g (s.fell f.2 []) ∧ Keeps [37] base w w2) := ⟨h2, HR.out.2.1.trans k2⟩
      clear h2 k2
      go_wp2_with fail
      go_ret
      exact ⟨rfl, HE.out⟩
end Go.Proofs.Ytfmdloomjnmpgaa
