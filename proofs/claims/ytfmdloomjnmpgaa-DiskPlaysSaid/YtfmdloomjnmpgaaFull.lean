/-
  DiskFull: what does not fit is refused, and nothing of it is there; what fits just is: true at any size and any bytes.
-/
import Derived.Test.YtfmdloomjnmpgaaTold
namespace Go.Proofs.Ytfmdloomjnmpgaa
open Go.RowKit

theorem reads_nil2 (w : World) (B : Nat) : Reads w B 2 none ([] : List (Int × Int)).length (faultCells []) := ⟨by simp [faultCells], fun h => absurd h (by simp)⟩

/-- 'int(uint(s) % m)'. -/
theorem umod (s : Int) (m : Nat) (h : 0 < m) (h2 : m ≤ 1000000) : ∃ k : Nat, k < m ∧ wrap64 ((IntKind.u64.wrap s).tmod (m : Int)) = (k : Int) := by
  have e : IntKind.u64.wrap s = s % 18446744073709551616 := IntKind.wrap_u64 s
  have h0 : 0 ≤ s % 18446744073709551616 := Int.emod_nonneg _ (by decide)
  rw [e, Int.tmod_eq_emod_of_nonneg h0]
  have h1 : 0 ≤ s % 18446744073709551616 % (m : Int) := Int.emod_nonneg _ (by omega)
  have h3 : s % 18446744073709551616 % (m : Int) < m := Int.emod_lt_of_pos _ (by omega)
  generalize s % 18446744073709551616 % (m : Int) = r at *
  refine ⟨r.toNat, by omega, ?_⟩
  rw [show wrap64 r = r from IntWalk.wrap64_in _ ⟨by omega, by omega⟩]
  omega

theorem new_append (n : Nat) (bs : List UInt8) : (St.new n []).append bs = if n < bs.length then (8, { St.new n [] with calls := 1 }) else (0, { St.new n [] with b := bs, calls := 1 }) := by
  simp [St.append, St.call, St.new, hitAt]
theorem free_append (s : St) (bs : List UInt8) (hd : s.down = false) (hf : s.faults = []) : s.append bs = if s.size - s.b.length < bs.length then (8, { s with calls := s.calls + 1 }) else (0, { s with b := s.b ++ bs, calls := s.calls + 1 }) := by
  simp [St.append, St.call, hd, hf, hitAt]

set_option maxRecDepth 100000 in
set_option maxHeartbeats 4000000 in
theorem full_11 (size : Int) (A B : Option Addr) (xs ys : List UInt8) (ca cb : Nat) (w : World) (ha : Reads w w.heap.size 1 A xs.length (byteV xs)) (hb : Reads w w.heap.size 1 B ys.length (byteV ys)) (hca : xs.length ≤ ca) (hcb : ys.length ≤ cb) (k : Nat) (hk : k < 201) (hkm : wrap64 ((IntKind.u64.wrap size).tmod 201) = (k : Int)) (hx3 : (xs.length : Int) ≤ 300) (hy3 : (ys.length : Int) ≤ 300) (h1 : xs.length ≤ k) (h2 : xs.length + ys.length ≤ k) :
    Calls Try.prog 5 #[.int .i64 size, .slice A xs.length ca, .slice B ys.length cb] w fun e w' => e = .returned (.bool true) ∧ Below w.heap.size w w' := by
  have HR := Lib.hid (And.intro ha hb)
  have e1 : (St.new k []).append xs = (0, { b := xs, synced := 0, size := k, faults := [], calls := 1, down := false }) := by rw [free_append _ _ rfl rfl]; rw [if_neg (by simp [St.new]; omega)]; rfl
  have e2 : ({ b := xs, synced := 0, size := k, faults := [], calls := 1, down := false } : St).append ys = (0, { b := xs ++ ys, synced := 0, size := k, faults := [], calls := 2, down := false }) := by rw [free_append _ _ rfl rfl]; rw [if_neg (by simp; omega)]
  have E := Lib.hid (And.intro e1 e2)
  clear ha hb e1 e2
  go_enter Try.func5, Try.ntmps5
  go_wp2_with fail
  refine (new_any none [] 0 w.heap.size k _ (by omega) (Nat.le_refl _) (reads_nil2 _ _) (by simp) (by simp)).mono ?_
  rintro e w1 ⟨g, rfl, hd, hb, hg⟩
  have HD : Hid (DiskAt w1 w.heap.size g (St.new k []) ∧ Below w.heap.size w w1) := ⟨hd, hb⟩
  have hr1 : Reads w1 w1.heap.size 1 A xs.length (byteV xs) := (HR.out.1.below hb).more hb.size
  clear hd hb
  go_wp2_with fail
  refine (append_any A xs ca g w.heap.size _ w1 HD.out.1 HD.out.2.size (Nat.zero_lt_succ _) hr1 (HR.out.1.apart hg) hca (by omega)).mono ?_
  rintro e w2 ⟨rfl, hd, hk2⟩
  rw [E.out.1] at hd ⊢
  have HD2 : Hid (DiskAt w2 w.heap.size g { b := xs, synced := 0, size := k, faults := [], calls := 1, down := false } ∧ Below w.heap.size w w2) := ⟨hd, HD.out.2.trans hk2.below⟩
  have hr2 : Reads w2 w2.heap.size 1 B ys.length (byteV ys) := (HR.out.2.below HD2.out.2).more HD2.out.2.size
  clear hd hk2 hr1
  go_wp2_with fail
  refine (append_any B ys cb g w.heap.size _ w2 HD2.out.1 HD2.out.2.size (Nat.succ_lt_succ (Nat.zero_lt_succ _)) hr2 (HR.out.2.apart hg) hcb (by omega)).mono ?_
  rintro e w3 ⟨rfl, hd, hk3⟩
  rw [E.out.2] at hd ⊢
  have HD3 : Hid (DiskAt w3 w.heap.size g { b := xs ++ ys, synced := 0, size := k, faults := [], calls := 2, down := false } ∧ Below w.heap.size w w3) := ⟨hd, HD2.out.2.trans hk3.below⟩
  clear hd hk3 hr2
  go_wp2_with fail
  refine (told_any w3).mono ?_
  rintro e w4 ⟨rfl, hb4⟩
  have HD4 : Hid (DiskAt w4 w.heap.size g { b := xs ++ ys, synced := 0, size := k, faults := [], calls := 2, down := false } ∧ Below w.heap.size w w4) := ⟨HD3.out.1.below hb4, HD3.out.2.trans (hb4.mono HD3.out.2.size)⟩
  clear hb4
  go_wp2_with fail
  refine (len_any g w.heap.size _ _ HD4.out.1).mono ?_
  rintro e w5 ⟨rfl, rfl⟩
  go_wp2_with fail
  refine (synced_any g w.heap.size _ _ HD4.out.1).mono ?_
  rintro e w5 ⟨rfl, rfl⟩
  go_wp2_with fail
  refine (calls_any g w.heap.size _ _ HD4.out.1).mono ?_
  rintro e w5 ⟨rfl, rfl⟩
  go_wp2_with fail
  go_ret
  exact ⟨rfl, HD4.out.2⟩

set_option maxRecDepth 100000 in
set_option maxHeartbeats 4000000 in
theorem full_10 (size : Int) (A B : Option Addr) (xs ys : List UInt8) (ca cb : Nat) (w : World) (ha : Reads w w.heap.size 1 A xs.length (byteV xs)) (hb : Reads w w.heap.size 1 B ys.length (byteV ys)) (hca : xs.length ≤ ca) (hcb : ys.length ≤ cb) (k : Nat) (hk : k < 201) (hkm : wrap64 ((IntKind.u64.wrap size).tmod 201) = (k : Int)) (hx3 : (xs.length : Int) ≤ 300) (hy3 : (ys.length : Int) ≤ 300) (h1 : xs.length ≤ k) (h2 : k < xs.length + ys.length) :
    Calls Try.prog 5 #[.int .i64 size, .slice A xs.length ca, .slice B ys.length cb] w fun e w' => e = .returned (.bool true) ∧ Below w.heap.size w w' := by
  have HR := Lib.hid (And.intro ha hb)
  have e1 : (St.new k []).append xs = (0, { b := xs, synced := 0, size := k, faults := [], calls := 1, down := false }) := by rw [free_append _ _ rfl rfl]; rw [if_neg (by simp [St.new]; omega)]; rfl
  have e2 : ({ b := xs, synced := 0, size := k, faults := [], calls := 1, down := false } : St).append ys = (8, { b := xs, synced := 0, size := k, faults := [], calls := 2, down := false }) := by rw [free_append _ _ rfl rfl]; rw [if_pos (by simp; omega)]
  have E := Lib.hid (And.intro e1 e2)
  clear ha hb e1 e2
  have hq : decide ((ys.length : Int) ≤ (k : Int) - (xs.length : Int)) = false := decide_eq_false (by omega)
  go_enter Try.func5, Try.ntmps5
  go_wp2_with fail
  refine (new_any none [] 0 w.heap.size k _ (by omega) (Nat.le_refl _) (reads_nil2 _ _) (by simp) (by simp)).mono ?_
  rintro e w1 ⟨g, rfl, hd, hb, hg⟩
  have HD : Hid (DiskAt w1 w.heap.size g (St.new k []) ∧ Below w.heap.size w w1) := ⟨hd, hb⟩
  have hr1 : Reads w1 w1.heap.size 1 A xs.length (byteV xs) := (HR.out.1.below hb).more hb.size
  clear hd hb
  go_wp2_with fail
  refine (append_any A xs ca g w.heap.size _ w1 HD.out.1 HD.out.2.size (Nat.zero_lt_succ _) hr1 (HR.out.1.apart hg) hca (by omega)).mono ?_
  rintro e w2 ⟨rfl, hd, hk2⟩
  rw [E.out.1] at hd ⊢
  have HD2 : Hid (DiskAt w2 w.heap.size g { b := xs, synced := 0, size := k, faults := [], calls := 1, down := false } ∧ Below w.heap.size w w2) := ⟨hd, HD.out.2.trans hk2.below⟩
  have hr2 : Reads w2 w2.heap.size 1 B ys.length (byteV ys) := (HR.out.2.below HD2.out.2).more HD2.out.2.size
  clear hd hk2 hr1
  go_wp2_with fail
  refine (append_any B ys cb g w.heap.size _ w2 HD2.out.1 HD2.out.2.size (Nat.succ_lt_succ (Nat.zero_lt_succ _)) hr2 (HR.out.2.apart hg) hcb (by omega)).mono ?_
  rintro e w3 ⟨rfl, hd, hk3⟩
  rw [E.out.2] at hd ⊢
  have HD3 : Hid (DiskAt w3 w.heap.size g { b := xs, synced := 0, size := k, faults := [], calls := 2, down := false } ∧ Below w.heap.size w w3) := ⟨hd, HD2.out.2.trans hk3.below⟩
  clear hd hk3 hr2
  go_wp2_with fail
  refine (told_any w3).mono ?_
  rintro e w4 ⟨rfl, hb4⟩
  have HD4 : Hid (DiskAt w4 w.heap.size g { b := xs, synced := 0, size := k, faults := [], calls := 2, down := false } ∧ Below w.heap.size w w4) := ⟨HD3.out.1.below hb4, HD3.out.2.trans (hb4.mono HD3.out.2.size)⟩
  clear hb4
  go_wp2_with fail
  refine (len_any g w.heap.size _ _ HD4.out.1).mono ?_
  rintro e w5 ⟨rfl, rfl⟩
  go_wp2_with fail
  refine (synced_any g w.heap.size _ _ HD4.out.1).mono ?_
  rintro e w5 ⟨rfl, rfl⟩
  go_wp2_with fail
  refine (calls_any g w.heap.size _ _ HD4.out.1).mono ?_
  rintro e w5 ⟨rfl, rfl⟩
  go_wp2_with fail
  go_ret
  exact ⟨rfl, HD4.out.2⟩

set_option maxRecDepth 100000 in
set_option maxHeartbeats 4000000 in
theorem full_01 (size : Int) (A B : Option Addr) (xs ys : List UInt8) (ca cb : Nat) (w : World) (ha : Reads w w.heap.size 1 A xs.length (byteV xs)) (hb : Reads w w.heap.size 1 B ys.length (byteV ys)) (hca : xs.length ≤ ca) (hcb : ys.length ≤ cb) (k : Nat) (hk : k < 201) (hkm : wrap64 ((IntKind.u64.wrap size).tmod 201) = (k : Int)) (hx3 : (xs.length : Int) ≤ 300) (hy3 : (ys.length : Int) ≤ 300) (h1 : k < xs.length) (h2 : ys.length ≤ k) :
    Calls Try.prog 5 #[.int .i64 size, .slice A xs.length ca, .slice B ys.length cb] w fun e w' => e = .returned (.bool true) ∧ Below w.heap.size w w' := by
  have HR := Lib.hid (And.intro ha hb)
  have e1 : (St.new k []).append xs = (8, { b := [], synced := 0, size := k, faults := [], calls := 1, down := false }) := by rw [free_append _ _ rfl rfl]; rw [if_pos (by simp [St.new]; omega)]; rfl
  have e2 : ({ b := [], synced := 0, size := k, faults := [], calls := 1, down := false } : St).append ys = (0, { b := ys, synced := 0, size := k, faults := [], calls := 2, down := false }) := by rw [free_append _ _ rfl rfl]; rw [if_neg (by simp; omega)]; rfl
  have E := Lib.hid (And.intro e1 e2)
  clear ha hb e1 e2
  go_enter Try.func5, Try.ntmps5
  go_wp2_with fail
  refine (new_any none [] 0 w.heap.size k _ (by omega) (Nat.le_refl _) (reads_nil2 _ _) (by simp) (by simp)).mono ?_
  rintro e w1 ⟨g, rfl, hd, hb, hg⟩
  have HD : Hid (DiskAt w1 w.heap.size g (St.new k []) ∧ Below w.heap.size w w1) := ⟨hd, hb⟩
  have hr1 : Reads w1 w1.heap.size 1 A xs.length (byteV xs) := (HR.out.1.below hb).more hb.size
  clear hd hb
  go_wp2_with fail
  refine (append_any A xs ca g w.heap.size _ w1 HD.out.1 HD.out.2.size (Nat.zero_lt_succ _) hr1 (HR.out.1.apart hg) hca (by omega)).mono ?_
  rintro e w2 ⟨rfl, hd, hk2⟩
  rw [E.out.1] at hd ⊢
  have HD2 : Hid (DiskAt w2 w.heap.size g { b := [], synced := 0, size := k, faults := [], calls := 1, down := false } ∧ Below w.heap.size w w2) := ⟨hd, HD.out.2.trans hk2.below⟩
  have hr2 : Reads w2 w2.heap.size 1 B ys.length (byteV ys) := (HR.out.2.below HD2.out.2).more HD2.out.2.size
  clear hd hk2 hr1
  go_wp2_with fail
  refine (append_any B ys cb g w.heap.size _ w2 HD2.out.1 HD2.out.2.size (Nat.succ_lt_succ (Nat.zero_lt_succ _)) hr2 (HR.out.2.apart hg) hcb (by omega)).mono ?_
  rintro e w3 ⟨rfl, hd, hk3⟩
  rw [E.out.2] at hd ⊢
  have HD3 : Hid (DiskAt w3 w.heap.size g { b := ys, synced := 0, size := k, faults := [], calls := 2, down := false } ∧ Below w.heap.size w w3) := ⟨hd, HD2.out.2.trans hk3.below⟩
  clear hd hk3 hr2
  go_wp2_with fail
  refine (told_any w3).mono ?_
  rintro e w4 ⟨rfl, hb4⟩
  have HD4 : Hid (DiskAt w4 w.heap.size g { b := ys, synced := 0, size := k, faults := [], calls := 2, down := false } ∧ Below w.heap.size w w4) := ⟨HD3.out.1.below hb4, HD3.out.2.trans (hb4.mono HD3.out.2.size)⟩
  clear hb4
  go_wp2_with fail
  refine (len_any g w.heap.size _ _ HD4.out.1).mono ?_
  rintro e w5 ⟨rfl, rfl⟩
  go_wp2_with fail
  refine (synced_any g w.heap.size _ _ HD4.out.1).mono ?_
  rintro e w5 ⟨rfl, rfl⟩
  go_wp2_with fail
  refine (calls_any g w.heap.size _ _ HD4.out.1).mono ?_
  rintro e w5 ⟨rfl, rfl⟩
  go_wp2_with fail
  go_ret
  exact ⟨rfl, HD4.out.2⟩

set_option maxRecDepth 100000 in
set_option maxHeartbeats 4000000 in
theorem full_00 (size : Int) (A B : Option Addr) (xs ys : List UInt8) (ca cb : Nat) (w : World) (ha : Reads w w.heap.size 1 A xs.length (byteV xs)) (hb : Reads w w.heap.size 1 B ys.length (byteV ys)) (hca : xs.length ≤ ca) (hcb : ys.length ≤ cb) (k : Nat) (hk : k < 201) (hkm : wrap64 ((IntKind.u64.wrap size).tmod 201) = (k : Int)) (hx3 : (xs.length : Int) ≤ 300) (hy3 : (ys.length : Int) ≤ 300) (h1 : k < xs.length) (h2 : k < ys.length) :
    Calls Try.prog 5 #[.int .i64 size, .slice A xs.length ca, .slice B ys.length cb] w fun e w' => e = .returned (.bool true) ∧ Below w.heap.size w w' := by
  have HR := Lib.hid (And.intro ha hb)
  have e1 : (St.new k []).append xs = (8, { b := [], synced := 0, size := k, faults := [], calls := 1, down := false }) := by rw [free_append _ _ rfl rfl]; rw [if_pos (by simp [St.new]; omega)]; rfl
  have e2 : ({ b := [], synced := 0, size := k, faults := [], calls := 1, down := false } : St).append ys = (8, { b := [], synced := 0, size := k, faults := [], calls := 2, down := false }) := by rw [free_append _ _ rfl rfl]; rw [if_pos (by simp; omega)]
  have E := Lib.hid (And.intro e1 e2)
  clear ha hb e1 e2
  go_enter Try.func5, Try.ntmps5
  go_wp2_with fail
  refine (new_any none [] 0 w.heap.size k _ (by omega) (Nat.le_refl _) (reads_nil2 _ _) (by simp) (by simp)).mono ?_
  rintro e w1 ⟨g, rfl, hd, hb, hg⟩
  have HD : Hid (DiskAt w1 w.heap.size g (St.new k []) ∧ Below w.heap.size w w1) := ⟨hd, hb⟩
  have hr1 : Reads w1 w1.heap.size 1 A xs.length (byteV xs) := (HR.out.1.below hb).more hb.size
  clear hd hb
  go_wp2_with fail
  refine (append_any A xs ca g w.heap.size _ w1 HD.out.1 HD.out.2.size (Nat.zero_lt_succ _) hr1 (HR.out.1.apart hg) hca (by omega)).mono ?_
  rintro e w2 ⟨rfl, hd, hk2⟩
  rw [E.out.1] at hd ⊢
  have HD2 : Hid (DiskAt w2 w.heap.size g { b := [], synced := 0, size := k, faults := [], calls := 1, down := false } ∧ Below w.heap.size w w2) := ⟨hd, HD.out.2.trans hk2.below⟩
  have hr2 : Reads w2 w2.heap.size 1 B ys.length (byteV ys) := (HR.out.2.below HD2.out.2).more HD2.out.2.size
  clear hd hk2 hr1
  go_wp2_with fail
  refine (append_any B ys cb g w.heap.size _ w2 HD2.out.1 HD2.out.2.size (Nat.succ_lt_succ (Nat.zero_lt_succ _)) hr2 (HR.out.2.apart hg) hcb (by omega)).mono ?_
  rintro e w3 ⟨rfl, hd, hk3⟩
  rw [E.out.2] at hd ⊢
  have HD3 : Hid (DiskAt w3 w.heap.size g { b := [], synced := 0, size := k, faults := [], calls := 2, down := false } ∧ Below w.heap.size w w3) := ⟨hd, HD2.out.2.trans hk3.below⟩
  clear hd hk3 hr2
  go_wp2_with fail
  refine (told_any w3).mono ?_
  rintro e w4 ⟨rfl, hb4⟩
  have HD4 : Hid (DiskAt w4 w.heap.size g { b := [], synced := 0, size := k, faults := [], calls := 2, down := false } ∧ Below w.heap.size w w4) := ⟨HD3.out.1.below hb4, HD3.out.2.trans (hb4.mono HD3.out.2.size)⟩
  clear hb4
  go_wp2_with fail
  refine (len_any g w.heap.size _ _ HD4.out.1).mono ?_
  rintro e w5 ⟨rfl, rfl⟩
  go_wp2_with fail
  refine (synced_any g w.heap.size _ _ HD4.out.1).mono ?_
  rintro e w5 ⟨rfl, rfl⟩
  go_wp2_with fail
  refine (calls_any g w.heap.size _ _ HD4.out.1).mono ?_
  rintro e w5 ⟨rfl, rfl⟩
  go_wp2_with fail
  go_ret
  exact ⟨rfl, HD4.out.2⟩

set_option maxRecDepth 100000 in
set_option maxHeartbeats 4000000 in
theorem full_bigx (size : Int) (A B : Option Addr) (xs ys : List UInt8) (ca cb : Nat) (w : World) (k : Nat) (hk : k < 201) (hkm : wrap64 ((IntKind.u64.wrap size).tmod 201) = (k : Int)) (h : 300 < (xs.length : Int)) :
    Calls Try.prog 5 #[.int .i64 size, .slice A xs.length ca, .slice B ys.length cb] w fun e w' => e = .returned (.bool true) ∧ Below w.heap.size w w' := by
  go_enter Try.func5, Try.ntmps5
  go_wp2_with fail
  refine (new_any none [] 0 w.heap.size k _ (by omega) (Nat.le_refl _) (reads_nil2 _ _) (by simp) (by simp)).mono ?_
  rintro e w1 ⟨g, rfl, -, hb, -⟩
  have HB : Hid (Below w.heap.size w w1) := hb
  clear hb
  go_wp2_with fail
  refine (told_any w1).mono ?_
  rintro e w4 ⟨rfl, hb4⟩
  have HB4 : Hid (Below w.heap.size w w4) := HB.out.trans (hb4.mono HB.out.size)
  clear hb4
  go_wp2_with fail
  go_ret
  exact ⟨rfl, HB4.out⟩

set_option maxRecDepth 100000 in
set_option maxHeartbeats 4000000 in
theorem full_bigy (size : Int) (A B : Option Addr) (xs ys : List UInt8) (ca cb : Nat) (w : World) (k : Nat) (hk : k < 201) (hkm : wrap64 ((IntKind.u64.wrap size).tmod 201) = (k : Int)) (h1 : (xs.length : Int) ≤ 300) (h : 300 < (ys.length : Int)) :
    Calls Try.prog 5 #[.int .i64 size, .slice A xs.length ca, .slice B ys.length cb] w fun e w' => e = .returned (.bool true) ∧ Below w.heap.size w w' := by
  go_enter Try.func5, Try.ntmps5
  go_wp2_with fail
  refine (new_any none [] 0 w.heap.size k _ (by omega) (Nat.le_refl _) (reads_nil2 _ _) (by simp) (by simp)).mono ?_
  rintro e w1 ⟨g, rfl, -, hb, -⟩
  have HB : Hid (Below w.heap.size w w1) := hb
  clear hb
  go_wp2_with fail
  refine (told_any w1).mono ?_
  rintro e w4 ⟨rfl, hb4⟩
  have HB4 : Hid (Below w.heap.size w w4) := HB.out.trans (hb4.mono HB.out.size)
  clear hb4
  go_wp2_with fail
  go_ret
  exact ⟨rfl, HB4.out⟩

theorem full_any (size : Int) (A B : Option Addr) (xs ys : List UInt8) (ca cb : Nat) (w : World) (ha : Reads w w.heap.size 1 A xs.length (byteV xs)) (hb : Reads w w.heap.size 1 B ys.length (byteV ys)) (hca : xs.length ≤ ca) (hcb : ys.length ≤ cb) :
    Calls Try.prog 5 #[.int .i64 size, .slice A xs.length ca, .slice B ys.length cb] w fun e w' => e = .returned (.bool true) ∧ Below w.heap.size w w' := by
  obtain ⟨k, hk, hkm⟩ := umod size 201 (by omega) (by omega)
  simp only [Int.cast_ofNat_Int] at hkm
  by_cases hx : (xs.length : Int) ≤ 300
  · by_cases hy : (ys.length : Int) ≤ 300
    · by_cases h1 : xs.length ≤ k
      · by_cases h2 : xs.length + ys.length ≤ k
        · exact full_11 size A B xs ys ca cb w ha hb hca hcb k hk hkm hx hy h1 h2
        · exact full_10 size A B xs ys ca cb w ha hb hca hcb k hk hkm hx hy h1 (by omega)
      · by_cases h2 : ys.length ≤ k
        · exact full_01 size A B xs ys ca cb w ha hb hca hcb k hk hkm hx hy (by omega) h2
        · exact full_00 size A B xs ys ca cb w ha hb hca hcb k hk hkm hx hy (by omega) (by omega)
    · exact full_bigy size A B xs ys ca cb w k hk hkm hx (by omega)
  · exact full_bigx size A B xs ys ca cb w k hk hkm (by omega)
end Go.Proofs.Ytfmdloomjnmpgaa
