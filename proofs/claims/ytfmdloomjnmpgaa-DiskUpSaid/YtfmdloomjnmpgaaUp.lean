/-
  DiskUp: up again calls are numbered anew, and faults strike at theirs; the first of two at one call counts: true at any three numbers.
-/
import Derived.Test.YtfmdloomjnmpgaaFull
import Derived.Deep.LoopGhost
namespace Go.Proofs.Ytfmdloomjnmpgaa
open Go.RowKit

def digits : List UInt8 := [49, 50, 51, 52, 53, 54, 55, 56]
def twoFaults (k m q : Nat) : List (Int × Int) := [((k : Int), (m : Int)), ((k : Int), (q : Int))]
/-- Up, so many calls behind it, all bytes synced. -/
def U0 (k m q : Nat) (b : List UInt8) (i : Nat) : St := { b := b, synced := b.length, size := 1000, faults := twoFaults k m q, calls := i, down := false }
/-- Down behind the append. -/
def U1 (k m q : Nat) (b : List UInt8) : St := { b := b ++ digits.take m, synced := b.length + m, size := 1000, faults := twoFaults k m q, calls := k + 1, down := true }
theorem u_sync (k m q : Nat) (b : List UInt8) (i : Nat) (h : i < k) : (U0 k m q b i).sync = (0, U0 k m q b (i + 1)) := by
  have h1 : ((k : Int) == (i : Int)) = false := by simp; omega
  have e : (U0 k m q b i).call [] = (0, { U0 k m q b i with calls := i + 1 }) := by simp [St.call, U0, hitAt, twoFaults, List.findIdx_cons, h1]
  simp only [St.sync, e]
  rfl
theorem u_append (k m q : Nat) (b : List UInt8) (hm : m ≤ 8) (hb : b.length ≤ 16) : (U0 k m q b k).append digits = (9, U1 k m q b) := by
  have hroom : (U0 k m q b k).room digits = b ++ digits := by
    simp only [St.room, U0]
    rw [List.take_of_length_le (by simp [digits]; omega)]
  have hk : (U0 k m q b k).kept (m : Int) digits = m := by
    rw [St.kept, hroom]
    simp [U0, digits]
    omega
  have e : (U0 k m q b k).call digits = (9, U1 k m q b) := by
    have hh : (U0 k m q b k).faults[hitAt (U0 k m q b k).faults (U0 k m q b k).calls]? = some ((k : Int), (m : Int)) := by simp [U0, hitAt, twoFaults, List.findIdx_cons]
    simp only [St.call, hh]
    rw [if_neg (by simp [U0])]
    simp only [St.fell, hk, hroom]
    simp only [U1, U0, List.take_append, Nat.add_sub_cancel_left]
    rw [List.take_of_length_le (by omega)]
  simp [St.append, e]
theorem u_up (k m q : Nat) (b : List UInt8) (hm : m ≤ 8) : (U1 k m q b).up (twoFaults k m q) = U0 k m q (b ++ digits.take m) 0 := by
  have : (b ++ digits.take m).length = b.length + m := by simp [digits]; omega
  simp [St.up, U1, U0, this]
theorem reads_blk {w : World} {g : Nat} {t : TypeId} {cs : Array Value} (h : Blk w g t cs) {size n B : Nat} (hn : cs.size = n * size) (hB : g < B) : Reads w B size (some ⟨g, 0, none⟩) n cs.toList :=
  ⟨by simpa using hn, fun _ => ⟨_, rfl, hB, fun j u hu => by
    have e : (⟨g, 0, none⟩ : Addr).add j = ⟨g, j, none⟩ := by rw [Addr.add_lit, Nat.zero_add]
    rw [e, h.cell j]
    simpa using hu⟩⟩

set_option maxRecDepth 100000 in
set_option maxHeartbeats 4000000 in
theorem up_law (s a b : Int) (w : World) : Calls Try.prog 7 #[.int .i64 s, .int .i64 a, .int .i64 b] w fun e w' => e = .returned (.bool true) ∧ Below w.heap.size w w' := by
  obtain ⟨k, hk, hk1⟩ := umod s 11 (by omega) (by omega)
  obtain ⟨m, hm, hm1⟩ := umod a 9 (by omega) (by omega)
  obtain ⟨q, hq, hq1⟩ := umod b 9 (by omega) (by omega)
  simp only [Int.cast_ofNat_Int] at hk1 hm1 hq1
  have kc := fun (w : World) (C : Array Value) (n c : Nat) => Lib.run_convert_bytes_const (P := Try.prog) w 29 5 C n c Try.underlying29 Try.underlying5
  go_enter Try.func7, Try.ntmps7
  go_wp2_with fail
  refine (new_any _ (twoFaults k m q) 2 w.heap.size 1000 _ (by omega) (by simp) (reads_new w _ 44 _ 2 2 rfl _ (by simp)) (by simp [twoFaults]) (by simp [twoFaults]; omega)).mono ?_
  rintro e w1 ⟨g, rfl, hd, hb, hg⟩
  have HD : Hid (DiskAt w1 w.heap.size g (U0 k m q [] 0) ∧ Below w.heap.size w w1 ∧ Blk w1 w.heap.size 44 (faultCells (twoFaults k m q)).toArray) :=
    ⟨hd, ((Below.refl _ _).alloc (Nat.le_refl _) _).trans (hb.mono (by simp)), Blk.below (Blk.new w 44 (faultCells (twoFaults k m q)).toArray) hb (by simp)⟩
  clear hd hb hg
  go_wp2_with fail
  go_loopw [11] (fun i wr => ∃ t : Nat, t ≤ 2 ∧ i = .int .i64 t ∧ ∃ bs : List UInt8, bs.length ≤ 8 * t ∧ Hid (DiskAt wr w.heap.size g (U0 k m q bs 0) ∧ Below w.heap.size w wr ∧ Blk wr w.heap.size 44 (faultCells (twoFaults k m q)).toArray)) (fun i _ => 2 - (intOf i).toNat)
  case atStart => exact ⟨0, by omega, rfl, [], by simp, HD⟩
  case round =>
    obtain ⟨t, ht, rfl, bs, hbs, HR⟩ := hrel
    clear HD
    by_cases hlt : t < 2
    · have hltb : decide ((t : Int) < 2) = true := decide_eq_true (by omega)
      obtain ⟨wo, rfl⟩ : ∃ wo : World, wo = wr := ⟨_, rfl⟩
      go_wp2_with fail
      go_loopw [12] (fun i wi => ∃ j : Nat, j ≤ k ∧ i = .int .i64 j ∧ Hid (DiskAt wi w.heap.size g (U0 k m q bs j) ∧ Below w.heap.size w wi ∧ Blk wi w.heap.size 44 (faultCells (twoFaults k m q)).toArray)) (fun i _ => k - (intOf i).toNat)
      case atStart => exact ⟨0, by omega, rfl, HR⟩
      case round =>
        obtain ⟨j, hj, rfl, HI⟩ := hrel
        clear HR
        by_cases hjk : j < k
        · go_wp2_with fail
          refine (sync_any g w.heap.size _ _ HI.out.1 HI.out.2.1.size (by simp [U0]; omega)).mono ?_
          rintro e w2 ⟨rfl, hd, hkp⟩
          rw [u_sync k m q bs j hjk] at hd ⊢
          have HI2 : Hid (DiskAt w2 w.heap.size g (U0 k m q bs (j + 1)) ∧ Below w.heap.size w w2 ∧ Blk w2 w.heap.size 44 (faultCells (twoFaults k m q)).toArray) := ⟨hd, HI.out.2.1.trans hkp.below, hkp.blk HI.out.2.2 (by simp)⟩
          clear hd hkp
          go_wp2_with fail
          go_roundw
          case rel => first | exact ⟨j + 1, by omega, by go_num, HI2⟩ | ((repeat apply Exists.intro); exact ⟨⟨j + 1, by omega, by go_num, HI2⟩, rfl⟩)
          case measure => simp [intOf]; omega
        · have hjk2 : j = k := by omega
          subst hjk2
          have f1 : (U0 j m q bs j).calls = j := rfl
          have f2 : (U0 j m q bs j).b.length = bs.length := rfl
          have f3 : (U1 j m q bs).b.length = bs.length + m := by simp [U1, digits]; omega
          have f4 : (U1 j m q bs).calls = j + 1 := rfl
          have f5 : (U1 j m q bs).down = true := rfl
          go_wp2_with fail
          refine (len_any g w.heap.size _ _ HI.out.1).mono ?_
          rintro e w2 ⟨rfl, rfl⟩
          go_wp2_with fail
          refine (calls_any g w.heap.size _ _ HI.out.1).mono ?_
          rintro e w2 ⟨rfl, rfl⟩
          go_wp2_with fail
          refine (append_any _ digits 8 g w.heap.size _ _ (HI.out.1.alloc _) (Nat.le_trans HI.out.2.1.size (by simp)) (by simp [U0]; omega) (reads_new w2 _ 5 _ 1 8 rfl _ (by simp)) (fun _ ad h => by cases h; have := HI.out.1.lt; simp; omega) (by simp [digits]) (by simp [digits])).mono ?_
          rintro e w3 ⟨rfl, hd, hkp⟩
          rw [u_append j m q bs (by omega) (by omega)] at hd ⊢
          have H3 : Hid (DiskAt w3 w.heap.size g (U1 j m q bs) ∧ Below w.heap.size w w3 ∧ Blk w3 w.heap.size 44 (faultCells (twoFaults j m q)).toArray) :=
            ⟨hd, (HI.out.2.1.alloc HI.out.2.1.size _).trans hkp.below, hkp.blk (HI.out.2.2.alloc _) (by simp)⟩
          clear hd hkp HI
          go_wp2_with fail
          refine (len_any g w.heap.size _ _ H3.out.1).mono ?_
          rintro e w4 ⟨rfl, rfl⟩
          go_wp2_with fail
          refine (down_any g w.heap.size _ _ H3.out.1).mono ?_
          rintro e w4 ⟨rfl, rfl⟩
          go_wp2_with fail
          refine (sync_down g w.heap.size _ _ H3.out.1 rfl).mono ?_
          rintro e w4 ⟨rfl, rfl⟩
          go_wp2_with fail
          refine (calls_any g w.heap.size _ _ H3.out.1).mono ?_
          rintro e w4 ⟨rfl, rfl⟩
          go_wp2_with fail
          refine (up_any _ (twoFaults j m q) 2 g w.heap.size _ _ H3.out.1 H3.out.2.1.size (reads_blk H3.out.2.2 (by simp [faultCells, twoFaults]) (by have := H3.out.1.lt; have := H3.out.2.2.lt; omega)) (by simp [twoFaults]) (by simp [twoFaults]; omega)).mono ?_
          rintro e w5 ⟨rfl, hd, hkp⟩
          rw [u_up j m q bs (by omega)] at hd
          have H5 : Hid (DiskAt w5 w.heap.size g (U0 j m q (bs ++ digits.take m) 0) ∧ Below w.heap.size w w5 ∧ Blk w5 w.heap.size 44 (faultCells (twoFaults j m q)).toArray) :=
            ⟨hd, H3.out.2.1.trans hkp.below, hkp.blk H3.out.2.2 (by simp)⟩
          clear hd hkp H3
          go_wp2_with fail
          go_roundw
          case rel => first | exact ⟨t + 1, by omega, by go_num, bs ++ digits.take m, by simp [digits]; omega, H5⟩ | ((repeat apply Exists.intro); exact ⟨⟨t + 1, by omega, by go_num, bs ++ digits.take m, by simp [digits]; omega, H5⟩, rfl⟩)
          case measure => simp [intOf]; omega
    · go_wp2_with fail
      refine (told_any wr).mono ?_
      rintro e w4 ⟨rfl, hb4⟩
      have H4 : Hid (DiskAt w4 w.heap.size g (U0 k m q bs 0) ∧ Below w.heap.size w w4) := ⟨HR.out.1.below hb4, HR.out.2.1.trans (hb4.mono HR.out.2.1.size)⟩
      clear hb4
      have f1 : (U0 k m q bs 0).calls = 0 := rfl
      have f2 : (U0 k m q bs 0).down = false := rfl
      go_wp2_with fail
      refine (down_any g w.heap.size _ _ H4.out.1).mono ?_
      rintro e w5 ⟨rfl, rfl⟩
      go_wp2_with fail
      refine (calls_any g w.heap.size _ _ H4.out.1).mono ?_
      rintro e w5 ⟨rfl, rfl⟩
      go_wp2_with fail
      go_ret
      exact ⟨rfl, H4.out.2⟩
end Go.Proofs.Ytfmdloomjnmpgaa
