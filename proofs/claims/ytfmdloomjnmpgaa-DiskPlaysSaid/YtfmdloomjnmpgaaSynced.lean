/-
  DiskSynced: what is synced stays, however the disk goes down, at whichever call; without a sync nothing must: true at any parts and any numbers.
-/
import Derived.Test.YtfmdloomjnmpgaaTorn
import Derived.Deep.LoopGhost
import Derived.Lib.Strings
namespace Go.Proofs.Ytfmdloomjnmpgaa
open Go.RowKit

/-- What holds at each round's head: the disk's bytes are a beginning of all that was handed in; so many are safe. -/
structure Kept (s : St) (acc : List UInt8) (safe : Nat) : Prop where
  pre : s.b = acc.take s.b.length
  safe : safe ≤ s.synced
  all : s.down = false → s.b = acc
  size : s.size = 500
  synced : s.synced ≤ s.b.length

theorem take_pre {l : List UInt8} {n : Nat} : l.take n = l.take (l.take n).length := by
  rw [List.length_take, List.take_eq_take_iff]
  omega
theorem append_free {s : St} {bs : List UInt8} (hd : s.down = false) (hf : s.faults[hitAt s.faults s.calls]? = none) (hl : s.b.length + bs.length ≤ s.size) : s.append bs = (0, { s with b := s.b ++ bs, calls := s.calls + 1 }) := by
  have e : s.call bs = (0, { s with calls := s.calls + 1 }) := by simp [St.call, hd, hf]
  have h2 : ¬ s.size - s.b.length < bs.length := by omega
  simp [St.append, e, h2]
theorem append_hit {s : St} {bs : List UInt8} {f : Int × Int} (hd : s.down = false) (hf : s.faults[hitAt s.faults s.calls]? = some f) : s.append bs = (9, s.fell f.2 bs) := by
  have e : s.call bs = (9, s.fell f.2 bs) := by simp [St.call, hd, hf]
  simp [St.append, e]
theorem append_dead {s : St} {bs : List UInt8} (hd : s.down = true) : s.append bs = (9, s) := by
  have e : s.call bs = (9, s) := by simp [St.call, hd]
  simp [St.append, e]
theorem sync_free {s : St} (hd : s.down = false) (hf : s.faults[hitAt s.faults s.calls]? = none) : s.sync = (0, { s with synced := s.b.length, calls := s.calls + 1 }) := by
  have e : s.call [] = (0, { s with calls := s.calls + 1 }) := by simp [St.call, hd, hf]
  simp [St.sync, e]
theorem sync_hit {s : St} {f : Int × Int} (hd : s.down = false) (hf : s.faults[hitAt s.faults s.calls]? = some f) : s.sync = (9, s.fell f.2 []) := by
  have e : s.call [] = (9, s.fell f.2 []) := by simp [St.call, hd, hf]
  simp [St.sync, e]
theorem sync_dead {s : St} (hd : s.down = true) : s.sync = (9, s) := by
  have e : s.call [] = (9, s) := by simp [St.call, hd]
  simp [St.sync, e]
theorem Kept.fell {s : St} {acc part : List UInt8} {safe : Nat} (h : Kept s acc safe) (hd : s.down = false) (hl : acc.length + part.length ≤ 500) (k : Int) : Kept (s.fell k part) (acc ++ part) safe := by
  have hb := h.all hd
  have hroom : s.room part = acc ++ part := by rw [St.room, hb, h.size, List.take_of_length_le (by omega)]
  have hk : s.kept k part ≤ (acc ++ part).length - s.synced := by rw [St.kept, hroom]; omega
  have hs := h.synced
  have hsf := h.safe
  rw [hb] at hs
  simp only [List.length_append] at hk
  refine ⟨?_, ?_, fun h => by simp [St.fell] at h, h.size, ?_⟩
  · simp only [St.fell, hroom]
    exact take_pre
  · simp only [St.fell]
    omega
  · simp only [St.fell, hroom, List.length_take, List.length_append]
    omega
theorem Kept.append {s : St} {acc part : List UInt8} {safe : Nat} (h : Kept s acc safe) (hd : s.down = false) (hl : acc.length + part.length ≤ 500) : Kept (s.append part).2 (acc ++ part) safe := by
  have hb := h.all hd
  cases hf : s.faults[hitAt s.faults s.calls]? with
  | none =>
    rw [append_free hd hf (by rw [hb, h.size]; exact hl)]
    refine ⟨by simp only [hb, List.length_append]; rw [List.take_of_length_le (by simp)], h.safe, fun _ => by simp [hb], h.size, ?_⟩
    have := h.synced
    simp
    omega
  | some f =>
    rw [append_hit hd hf]
    exact h.fell hd hl f.2
theorem Kept.sync {s : St} {acc : List UInt8} {safe : Nat} (h : Kept s acc safe) (hl : acc.length ≤ 500) :
    (s.sync.1 = 0 ∧ Kept s.sync.2 acc acc.length) ∨ (s.sync.1 = 9 ∧ Kept s.sync.2 acc safe) := by
  cases hd : s.down with
  | true => rw [sync_dead hd]; exact .inr ⟨rfl, h⟩
  | false =>
    have hb := h.all hd
    cases hf : s.faults[hitAt s.faults s.calls]? with
    | none =>
      rw [sync_free hd hf]
      exact .inl ⟨rfl, by simp [hb], by simp [hb], fun _ => by simp [hb], h.size, by simp⟩
    | some f =>
      rw [sync_hit hd hf]
      have := h.fell (part := []) hd (by simpa using hl) f.2
      rw [List.append_nil] at this
      exact .inr ⟨rfl, this⟩
theorem append_calls (s : St) (bs : List UInt8) : (s.append bs).2.calls ≤ s.calls + 1 := by
  rcases call_code s bs with h9 | ⟨h0, -, -⟩
  · rw [show s.append bs = s.call bs by simp [St.append, h9]]
    unfold St.call
    split
    · simp
    · split <;> simp [St.fell]
  · simp only [St.append, h0]
    rw [if_neg (by decide)]
    split <;> simp
theorem sync_calls (s : St) : s.sync.2.calls ≤ s.calls + 1 := by
  rcases call_code s [] with h9 | ⟨h0, -, -⟩
  · rw [show s.sync = s.call [] by simp [St.sync, h9]]
    unfold St.call
    split
    · simp
    · split <;> simp [St.fell]
  · simp [St.sync, h0]

theorem down_is (g base : Nat) (s : St) (w : World) (h : DiskAt w base g s) {b : Bool} (hd : s.down = b) : Calls Try.prog 22 #[.pointer (some ⟨g, 0, none⟩)] w fun e w' => e = .returned (.bool b) ∧ w' = w := hd ▸ down_any g base s w h
theorem synced_facts {sAll : ByteArray} {st : St} {acc : List UInt8} {safe : Nat} (h1 : sAll = ⟨acc.toArray⟩) (h : Kept st acc safe) :
    decide (safe ≤ st.b.length) = true ∧ decide (st.b.length ≤ sAll.size) = true ∧ decide (safe ≤ st.synced) = true ∧ (st.b == (sAll.extract 0 st.b.length).toList) = true ∧ st.b.length ≤ sAll.size := by
  have hs : sAll.size = acc.length := by rw [h1]; simp [ByteArray.size]
  have hp := h.pre
  have hl : st.b.length ≤ acc.length := by
    have := congrArg List.length hp
    rw [List.length_take] at this
    omega
  have h2 := h.safe
  have h3 := h.synced
  refine ⟨by simp; omega, by simp; omega, by simp; omega, ?_, by omega⟩
  have e : (sAll.extract 0 st.b.length).toList = st.b := by
    rw [ByteArray.toList_eq, Lib.extract_data, h1, List.drop_zero, Nat.sub_zero]
    exact hp.symm
  rw [e]
  exact beq_self_eq_true _
theorem synced_ends {sAll : ByteArray} {st : St} {acc : List UInt8} {safe : Nat} (_h1 : sAll = ⟨acc.toArray⟩) (h : Kept st acc safe) : (safe : Int) ≤ (st.synced : Int) := by
  have h2 := h.safe
  omega
theorem synced_all {sAll : ByteArray} {st : St} {acc : List UInt8} {safe : Nat} (h1 : sAll = ⟨acc.toArray⟩) (h : Kept st acc safe) (hd : st.down = false) : ((st.b.length : Int) == (sAll.size : Int)) = true ∧ (st.b.length == sAll.size) = true := by
  rw [h.all hd, h1]
  simp [ByteArray.size]
/-- A slice of slices of bytes that came in. -/
def RowsIn (w : World) (A : Option Addr) (parts : List (List UInt8)) : Prop :=
  ∀ (i : Nat) (h : i < parts.length), ∃ (ad : Addr) (B : Option Addr) (c : Nat), A = some ad ∧ w.cell? (ad.add i) = some (.slice B (parts[i]'h).length c) ∧ (parts[i]'h).length ≤ c ∧ Reads w w.heap.size 1 B (parts[i]'h).length (byteV (parts[i]'h))

def SyncHead (w : World) (g n : Nat) (sAll : ByteArray) (safe : Nat) (acc : List UInt8) (st : St) (wr : World) : Prop :=
  sAll = ⟨acc.toArray⟩ ∧ acc.length ≤ 20 * n ∧ Kept st acc safe ∧ st.calls ≤ 2 * n ∧ DiskAt wr w.heap.size g st ∧ Below w.heap.size w wr

set_option maxRecDepth 100000 in
set_option maxHeartbeats 4000000 in
theorem synced_small (A : Option Addr) (parts : List (List UInt8)) (c : Nat) (k at_ keep : Int) (w : World) (hr : RowsIn w A parts) (hk : -9223372036854775808 ≤ keep ∧ keep ≤ 9223372036854775807) (hn : (parts.length : Int) ≤ 6) :
    Calls Try.prog 6 #[.slice A parts.length c, .int .i64 k, .int .i64 at_, .int .i64 keep] w fun e w' => e = .returned (.bool true) ∧ Below w.heap.size w w' := by
  obtain ⟨p, hp, hp1⟩ := umod at_ 8 (by omega) (by omega)
  obtain ⟨j, hj, hj1⟩ := umod k 7 (by omega) (by omega)
  simp only [Int.cast_ofNat_Int] at hp1 hj1
  have HR := Lib.hid hr
  clear hr
  go_enter Try.func6, Try.ntmps6
  go_wp2_with fail
  refine (new_any _ [((p : Int), keep)] 1 w.heap.size 500 _ (by omega) (by simp) (reads_new w _ 44 _ 2 1 rfl _ (by simp)) (by simp) (by simpa using hk)).mono ?_
  rintro e w1 ⟨g, rfl, hd, hb, hg⟩
  have hgg : w.heap.size ≤ g := by simp at hg; omega
  have HD : Hid (SyncHead w g 0 ⟨#[]⟩ 0 [] (St.new 500 [((p : Int), keep)]) w1) :=
    ⟨rfl, Nat.zero_le _, ⟨rfl, Nat.le_refl _, fun _ => rfl, rfl, Nat.le_refl _⟩, Nat.le_refl _, hd, ((Below.refl _ _).alloc (Nat.le_refl _) _).trans (hb.mono (by simp))⟩
  clear hd hb hg
  go_wp2_with fail
  simp only [hj1]
  go_loopw [10, 11, 13] (fun v10 v11 i wr => ∃ n : Nat, n ≤ parts.length ∧ i = .int .i64 n ∧ ∃ (sAll : ByteArray) (safe : Nat) (acc : List UInt8) (st : St), v10 = .string sAll ∧ v11 = .int .i64 safe ∧ Hid (SyncHead w g n sAll safe acc st wr)) (fun _ _ i _ => parts.length - (intOf i).toNat)
  case atStart => exact ⟨0, by omega, rfl, _, 0, [], _, rfl, rfl, HD⟩
  case round =>
    obtain ⟨n, hn2, rfl, sAll, safe, acc, st, rfl, rfl, H0⟩ := hrel
    clear HD
    by_cases hlt : n < parts.length
    · cases hdn : st.down with
      | true =>
        obtain ⟨hAll, hacc, hkept, hcalls, hdisk, hbel⟩ := H0.out
        have HD := Lib.hid (And.intro hdisk hbel)
        have HK := Lib.hid (And.intro hAll hkept)
        clear hAll hkept hdisk hbel hcalls hacc
        go_wp2_with fail
        refine (down_any g w.heap.size st _ HD.out.1).mono ?_
        rintro e w2 ⟨rfl, rfl⟩
        go_wp2_with fail
        refine (len_any g w.heap.size st _ HD.out.1).mono ?_
        rintro e w2 ⟨rfl, rfl⟩
        go_wp2_with fail
        refine (read_does 0 st.b.length g w.heap.size st _ HD.out.1 (by omega)).mono ?_
        rintro e w5 ⟨A5, c5, rfl, hown, hb5⟩
        rw [List.drop_zero, List.take_length] at hown
        have HC : Hid (∀ w9, Behind w5 w9 → (convert 29 9 (.slice A5 st.b.length c5)).run Try.prog w9 = .ok (.string ⟨st.b.toArray⟩) w9 ∧ DiskAt w9 w.heap.size g st ∧ Below w.heap.size w w9) := by
          intro w9 h9
          have hd5 := HD.out.1.below hb5
          have hw5 := HD.out.2.trans (hb5.mono HD.out.2.size)
          exact ⟨conv_reads ((Reads.of_own hown).below h9), hd5.below h9, hw5.trans (h9.mono hw5.size)⟩
        obtain ⟨f1, f2, f3, f4, f5⟩ := synced_facts HK.out.1 HK.out.2
        have f6 := synced_ends HK.out.1 HK.out.2
        clear hown hb5
        go_wp2_with fail
        refine wp_region_class (C := Behind w5) (by kernel_rfl) (by kernel_rfl) (Behind.drew w5) ?_
        repeat (first | go_big_quiet_skip | (go_big_quiet_want; go_big_quiet_op; go_big_quiet_on) | (go_big_quiet_want; go_big_quiet_op; refine ⟨_, fun _ _ => rfl, ?_⟩; go_big_quiet_on) | (go_big_quiet_want; go_big_quiet_op; apply Exists.intro; refine ⟨fun wq hq => ?_, ?_⟩; (first | exact (told_any wq).mono fun e w' ⟨he, hb⟩ => ⟨he, Behind.then_ hq hb⟩ | (go_at_call 20; exact (len_any g w.heap.size _ wq (HC.out wq hq).2.1).mono fun e w' ⟨he, hw⟩ => ⟨he, hw ▸ hq⟩) | (go_at_call 21; exact (synced_any g w.heap.size _ wq (HC.out wq hq).2.1).mono fun e w' ⟨he, hw⟩ => ⟨he, hw ▸ hq⟩) | (go_at_call 22; exact (down_is g w.heap.size _ wq (HC.out wq hq).2.1 hdn).mono fun e w' ⟨he, hw⟩ => ⟨he, hw ▸ hq⟩)); go_big_quiet_on) | (go_big_quiet_want; refine quiet_conv (.tmp 101) rfl rfl (fun wq hq => (HC.out wq hq).1) ?_; go_simp; go_big_quiet_on))
        refine wpQuiet_nil ?_
        intro w9 hq9
        have H9 := Lib.hid (HC.out w9 hq9).2.2
        clear hq9
        go_wp2
        go_ret
        exact ⟨rfl, H9.out⟩
      | false =>
        obtain ⟨hAll, hacc, hkept, hcalls, hdisk, hbel⟩ := H0.out
        obtain ⟨ad, B, cB, hA, hcell, hlc, hrd⟩ := HR.out n hlt
        subst hA
        have hbl : ad.block < w.heap.size := by have := World.block_lt_of_cell? w _ hcell; rwa [block_of_add] at this
        obtain ⟨part, hpart⟩ : ∃ part : List UInt8, part = parts[n] := ⟨_, rfl⟩
        rw [← hpart] at hcell hlc hrd
        have hcr : wr.cell? (ad.add n) = some (.slice B part.length cB) := (hbel.cell (p := ad.add n) (by rw [block_of_add]; exact hbl)).trans hcell
        have HP := Lib.hid (And.intro hpart (And.intro hcell hrd))
        have hn0 : (0 : Int) ≤ (n : Int) := by omega
        have hn3 : (n : Int) < (parts.length : Int) := by omega
        have hsz : sAll.size = acc.length := by rw [hAll]; simp [ByteArray.size]
        have hsz2 : sAll.size ≤ 120 := by omega
        have HK := Lib.hid (And.intro hAll (And.intro hkept hsz))
        clear hAll hkept hpart hcell hrd hsz
        have HD := Lib.hid (And.intro hdisk hbel)
        clear hdisk hbel
        go_wp2_with fail
        refine (down_any g w.heap.size st _ HD.out.1).mono ?_
        rintro e w2 ⟨rfl, rfl⟩
        by_cases hbig : (20 : Int) < (part.length : Int)
        · go_wp2_with fail
          refine (told_any _).mono ?_
          rintro e w3 ⟨rfl, hb3⟩
          have H3 := Lib.hid (HD.out.2.trans (hb3.mono HD.out.2.size))
          clear hb3
          go_wp2_with fail
          go_ret
          exact ⟨rfl, H3.out⟩
        · go_wp2_with fail
          refine (append_any B part cB g w.heap.size st _ HD.out.1 HD.out.2.size (by omega) ((HP.out.2.2.below HD.out.2).more HD.out.2.size) (HP.out.2.2.apart hgg) hlc (by omega)).mono ?_
          rintro e w3 ⟨rfl, hd, hkp⟩
          have hb3 := HD.out.2.trans hkp.below
          have hcr3 : w3.cell? (ad.add n) = some (.slice B part.length cB) := (hb3.cell (p := ad.add n) (by rw [block_of_add]; exact hbl)).trans HP.out.2.1
          have hconv := conv_reads (c := cB) (HP.out.2.2.below hb3)
          have HD3 := Lib.hid (And.intro hd hb3)
          clear hd hkp hb3 hcr
          have hk2 : Kept (st.append part).2 (acc ++ part) safe := HK.out.2.1.append hdn (by omega)
          have hc2 := append_calls st part
          have hal : sAll ++ ⟨part.toArray⟩ = (⟨(acc ++ part).toArray⟩ : ByteArray) := by rw [HK.out.1, ByteArray.mk_append_mk]
          have hal2 : (acc ++ part).length = sAll.size + part.length := by rw [HK.out.2.2]; simp
          have HE := Lib.hid (And.intro hk2 (And.intro hal hal2))
          clear hk2 hal hal2
          generalize (st.append part).2 = st2 at *
          by_cases hnj : n = j
          · subst hnj
            go_wp2_with fail
            refine (sync_any g w.heap.size st2 _ HD3.out.1 HD3.out.2.size (by omega)).mono ?_
            rintro e w4 ⟨rfl, hd, hkp⟩
            have HD4 := Lib.hid (And.intro hd (HD3.out.2.trans hkp.below))
            clear hd hkp hcr3 hconv
            have hc3 := sync_calls st2
            rcases HE.out.1.sync (by rw [HE.out.2.2]; omega) with ⟨hcode, hk3⟩ | ⟨hcode, hk3⟩
            · rw [hcode]
              have HK3 := Lib.hid hk3
              clear hcode hk3
              go_wp2_with fail
              go_roundw
              case rel => exact ⟨n + 1, by omega, by go_num, _, sAll.size + part.length, acc ++ part, st2.sync.2, rfl, by go_num, HE.out.2.1, by simp; omega, by rw [← HE.out.2.2]; exact HK3.out, by omega, HD4.out.1, HD4.out.2⟩
              case measure => simp [intOf]; omega
            · rw [hcode]
              have HK3 := Lib.hid hk3
              clear hcode hk3
              go_wp2_with fail
              go_roundw
              case rel => exact ⟨n + 1, by omega, by go_num, _, safe, acc ++ part, st2.sync.2, rfl, rfl, HE.out.2.1, by simp; omega, HK3.out, by omega, HD4.out.1, HD4.out.2⟩
              case measure => simp [intOf]; omega
          · have hne : ((n : Int) == (j : Int)) = false := by simp; omega
            go_wp2_with fail
            go_roundw
            case rel => exact ⟨n + 1, by omega, by go_num, _, safe, acc ++ part, st2, rfl, rfl, HE.out.2.1, by simp; omega, HE.out.1, by omega, HD3.out.1, HD3.out.2⟩
            case measure => simp [intOf]; omega
    · cases hdn : st.down with
      | true =>
        obtain ⟨hAll, hacc, hkept, hcalls, hdisk, hbel⟩ := H0.out
        have HD := Lib.hid (And.intro hdisk hbel)
        have HK := Lib.hid (And.intro hAll hkept)
        clear hAll hkept hdisk hbel hcalls hacc
        go_wp2_with fail
        refine (len_any g w.heap.size st _ HD.out.1).mono ?_
        rintro e w2 ⟨rfl, rfl⟩
        go_wp2_with fail
        refine (read_does 0 st.b.length g w.heap.size st _ HD.out.1 (by omega)).mono ?_
        rintro e w5 ⟨A5, c5, rfl, hown, hb5⟩
        rw [List.drop_zero, List.take_length] at hown
        have HC : Hid (∀ w9, Behind w5 w9 → (convert 29 9 (.slice A5 st.b.length c5)).run Try.prog w9 = .ok (.string ⟨st.b.toArray⟩) w9 ∧ DiskAt w9 w.heap.size g st ∧ Below w.heap.size w w9) := by
          intro w9 h9
          have hd5 := HD.out.1.below hb5
          have hw5 := HD.out.2.trans (hb5.mono HD.out.2.size)
          exact ⟨conv_reads ((Reads.of_own hown).below h9), hd5.below h9, hw5.trans (h9.mono hw5.size)⟩
        obtain ⟨f1, f2, f3, f4, f5⟩ := synced_facts HK.out.1 HK.out.2
        have f6 := synced_ends HK.out.1 HK.out.2
        clear hown hb5
        go_wp2_with fail
        refine wp_region_class (C := Behind w5) (by kernel_rfl) (by kernel_rfl) (Behind.drew w5) ?_
        repeat (first | go_big_quiet_skip | (go_big_quiet_want; go_big_quiet_op; go_big_quiet_on) | (go_big_quiet_want; go_big_quiet_op; refine ⟨_, fun _ _ => rfl, ?_⟩; go_big_quiet_on) | (go_big_quiet_want; go_big_quiet_op; apply Exists.intro; refine ⟨fun wq hq => ?_, ?_⟩; (first | exact (told_any wq).mono fun e w' ⟨he, hb⟩ => ⟨he, Behind.then_ hq hb⟩ | (go_at_call 20; exact (len_any g w.heap.size _ wq (HC.out wq hq).2.1).mono fun e w' ⟨he, hw⟩ => ⟨he, hw ▸ hq⟩) | (go_at_call 21; exact (synced_any g w.heap.size _ wq (HC.out wq hq).2.1).mono fun e w' ⟨he, hw⟩ => ⟨he, hw ▸ hq⟩) | (go_at_call 22; exact (down_is g w.heap.size _ wq (HC.out wq hq).2.1 hdn).mono fun e w' ⟨he, hw⟩ => ⟨he, hw ▸ hq⟩)); go_big_quiet_on) | (go_big_quiet_want; refine quiet_conv (.tmp 101) rfl rfl (fun wq hq => (HC.out wq hq).1) ?_; go_simp; go_big_quiet_on))
        refine wpQuiet_nil ?_
        intro w9 hq9
        have H9 := Lib.hid (HC.out w9 hq9).2.2
        clear hq9
        go_wp2
        go_ret
        exact ⟨rfl, H9.out⟩
      | false =>
        obtain ⟨hAll, hacc, hkept, hcalls, hdisk, hbel⟩ := H0.out
        have HD := Lib.hid (And.intro hdisk hbel)
        have HK := Lib.hid (And.intro hAll hkept)
        clear hAll hkept hdisk hbel hcalls hacc
        go_wp2_with fail
        obtain ⟨f7, f8⟩ := synced_all HK.out.1 HK.out.2 hdn
        refine (len_any g w.heap.size st _ HD.out.1).mono ?_
        rintro e w2 ⟨rfl, rfl⟩
        go_wp2_with fail
        refine (read_does 0 st.b.length g w.heap.size st _ HD.out.1 (by omega)).mono ?_
        rintro e w5 ⟨A5, c5, rfl, hown, hb5⟩
        rw [List.drop_zero, List.take_length] at hown
        have HC : Hid (∀ w9, Behind w5 w9 → (convert 29 9 (.slice A5 st.b.length c5)).run Try.prog w9 = .ok (.string ⟨st.b.toArray⟩) w9 ∧ DiskAt w9 w.heap.size g st ∧ Below w.heap.size w w9) := by
          intro w9 h9
          have hd5 := HD.out.1.below hb5
          have hw5 := HD.out.2.trans (hb5.mono HD.out.2.size)
          exact ⟨conv_reads ((Reads.of_own hown).below h9), hd5.below h9, hw5.trans (h9.mono hw5.size)⟩
        obtain ⟨f1, f2, f3, f4, f5⟩ := synced_facts HK.out.1 HK.out.2
        have f6 := synced_ends HK.out.1 HK.out.2
        clear hown hb5
        go_wp2_with fail
        refine wp_region_class (C := Behind w5) (by kernel_rfl) (by kernel_rfl) (Behind.drew w5) ?_
        repeat (first | go_big_quiet_skip | (go_big_quiet_want; go_big_quiet_op; go_big_quiet_on) | (go_big_quiet_want; go_big_quiet_op; refine ⟨_, fun _ _ => rfl, ?_⟩; go_big_quiet_on) | (go_big_quiet_want; go_big_quiet_op; apply Exists.intro; refine ⟨fun wq hq => ?_, ?_⟩; (first | exact (told_any wq).mono fun e w' ⟨he, hb⟩ => ⟨he, Behind.then_ hq hb⟩ | (go_at_call 20; exact (len_any g w.heap.size _ wq (HC.out wq hq).2.1).mono fun e w' ⟨he, hw⟩ => ⟨he, hw ▸ hq⟩) | (go_at_call 21; exact (synced_any g w.heap.size _ wq (HC.out wq hq).2.1).mono fun e w' ⟨he, hw⟩ => ⟨he, hw ▸ hq⟩) | (go_at_call 22; exact (down_is g w.heap.size _ wq (HC.out wq hq).2.1 hdn).mono fun e w' ⟨he, hw⟩ => ⟨he, hw ▸ hq⟩)); go_big_quiet_on) | (go_big_quiet_want; refine quiet_conv (.tmp 101) rfl rfl (fun wq hq => (HC.out wq hq).1) ?_; go_simp; go_big_quiet_on))
        refine wpQuiet_nil ?_
        intro w9 hq9
        have H9 := Lib.hid (HC.out w9 hq9).2.2
        clear hq9
        go_wp2
        go_ret
        exact ⟨rfl, H9.out⟩

set_option maxRecDepth 100000 in
set_option maxHeartbeats 4000000 in
theorem synced_big (A : Option Addr) (l c : Nat) (k at_ keep : Int) (w : World) (hn : 6 < (l : Int)) :
    Calls Try.prog 6 #[.slice A l c, .int .i64 k, .int .i64 at_, .int .i64 keep] w fun e w' => e = .returned (.bool true) ∧ Below w.heap.size w w' := by
  go_enter Try.func6, Try.ntmps6
  go_wp2_with fail
  refine (told_any w).mono ?_
  rintro e w4 ⟨rfl, hb4⟩
  have HB4 := Lib.hid hb4
  clear hb4
  go_wp2_with fail
  go_ret
  exact ⟨rfl, HB4.out⟩

theorem synced_law (A : Option Addr) (parts : List (List UInt8)) (c : Nat) (k at_ keep : Int) (w : World) (hr : RowsIn w A parts) (hk : -9223372036854775808 ≤ keep ∧ keep ≤ 9223372036854775807) :
    Calls Try.prog 6 #[.slice A parts.length c, .int .i64 k, .int .i64 at_, .int .i64 keep] w fun e w' => e = .returned (.bool true) ∧ Below w.heap.size w w' := by
  by_cases hn : (parts.length : Int) ≤ 6
  · exact synced_small A parts c k at_ keep w hr hk hn
  · exact synced_big A parts.length c k at_ keep w (by omega)
end Go.Proofs.Ytfmdloomjnmpgaa
