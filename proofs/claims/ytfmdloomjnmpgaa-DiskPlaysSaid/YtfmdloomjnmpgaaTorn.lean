/-
  DiskTorn: of what was not synced a beginning stays, what was synced stays whole: true at any bytes and any number of bytes that stay.
-/
import Derived.Test.YtfmdloomjnmpgaaFull
import Derived.Test.YtfmdloomjnmpgaaQuiet
namespace Go.Proofs.Ytfmdloomjnmpgaa
open Go.RowKit

/-- How many bytes stay of what was not synced. -/
def stays (keep : Int) (n : Nat) : Nat := min (max keep 0).toNat n

def R1 (keep : Int) (a : List UInt8) : St := { b := a, synced := 0, size := 1000, faults := [(3, keep)], calls := 1, down := false }
def R2 (keep : Int) (a : List UInt8) : St := { b := a, synced := a.length, size := 1000, faults := [(3, keep)], calls := 2, down := false }
def R3 (keep : Int) (a b : List UInt8) : St := { b := a ++ b, synced := a.length, size := 1000, faults := [(3, keep)], calls := 3, down := false }
def R4 (keep : Int) (a b c : List UInt8) : St :=
  { b := a ++ (b ++ c).take (stays keep (b ++ c).length), synced := a.length + stays keep (b ++ c).length, size := 1000, faults := [(3, keep)], calls := 4, down := true }
theorem r01 (keep : Int) (a : List UInt8) (h : a.length ≤ 50) : (St.new 1000 [(3, keep)]).append a = (0, R1 keep a) := by
  have e : (St.new 1000 [(3, keep)]).call a = (0, { St.new 1000 [(3, keep)] with calls := 1 }) := by simp [St.call, St.new, hitAt, List.findIdx_cons]
  simp only [St.append, e]
  rw [if_neg (by decide), if_neg (by simp [St.new]; omega)]
  rfl
theorem r12 (keep : Int) (a : List UInt8) : (R1 keep a).sync = (0, R2 keep a) := by
  have e : (R1 keep a).call [] = (0, { R1 keep a with calls := 2 }) := by simp [St.call, R1, hitAt, List.findIdx_cons]
  simp only [St.sync, e]
  rfl
theorem r23 (keep : Int) (a b : List UInt8) (ha : a.length ≤ 50) (hb : b.length ≤ 50) : (R2 keep a).append b = (0, R3 keep a b) := by
  have e : (R2 keep a).call b = (0, { R2 keep a with calls := 3 }) := by simp [St.call, R2, hitAt, List.findIdx_cons]
  simp only [St.append, e]
  rw [if_neg (by decide), if_neg (by simp [R2]; omega)]
  rfl
theorem r34 (keep : Int) (a b c : List UInt8) (ha : a.length ≤ 50) (hb : b.length ≤ 50) (hc : c.length ≤ 50) : (R3 keep a b).append c = (9, R4 keep a b c) := by
  have hroom : (R3 keep a b).room c = a ++ (b ++ c) := by
    simp only [St.room, R3, List.length_append]
    rw [List.take_of_length_le (by omega), List.append_assoc]
  have hk : (R3 keep a b).kept keep c = stays keep (b ++ c).length := by
    rw [St.kept, hroom]
    simp only [R3, stays, List.length_append]
    congr 1
    omega
  have e : (R3 keep a b).call c = (9, R4 keep a b c) := by
    have hh : (R3 keep a b).faults[hitAt (R3 keep a b).faults (R3 keep a b).calls]? = some (3, keep) := by simp [R3, hitAt, List.findIdx_cons]
    simp only [St.call, hh]
    rw [if_neg (by simp [R3])]
    simp only [St.fell, hk, hroom]
    simp only [R4, R3, List.take_append, Nat.add_sub_cancel_left]
    rw [List.take_of_length_le (by omega)]
  simp [St.append, e]

set_option maxRecDepth 100000 in
set_option maxHeartbeats 4000000 in
theorem torn_small (A B C : Option Addr) (a b c : List UInt8) (ca cb cc : Nat) (keep : Int) (w : World) (hra : Reads w w.heap.size 1 A a.length (byteV a)) (hrb : Reads w w.heap.size 1 B b.length (byteV b)) (hrc : Reads w w.heap.size 1 C c.length (byteV c))
    (hca : a.length ≤ ca) (hcb : b.length ≤ cb) (hcc : c.length ≤ cc) (hk : -9223372036854775808 ≤ keep ∧ keep ≤ 9223372036854775807) (ha : (a.length : Int) ≤ 50) (hb : (b.length : Int) ≤ 50) (hc : (c.length : Int) ≤ 50) :
    Calls Try.prog 4 #[.slice A a.length ca, .slice B b.length cb, .slice C c.length cc, .int .i64 keep] w fun e w' => e = .returned (.bool true) ∧ Below w.heap.size w w' := by
  obtain ⟨i0, hi0, hz0, hz1, hz2⟩ := info_parts info5
  have HR := Lib.hid (And.intro hra (And.intro hrb hrc))
  have E := Lib.hid (And.intro (r01 keep a (by omega)) (And.intro (r12 keep a) (And.intro (r23 keep a b (by omega) (by omega)) (r34 keep a b c (by omega) (by omega) (by omega)))))
  obtain ⟨kk, hkk⟩ : ∃ kk : Nat, kk = stays keep (b ++ c).length := ⟨_, rfl⟩
  have hkl : kk ≤ b.length + c.length := by rw [hkk, stays]; simp; omega
  obtain ⟨mx, hmx⟩ : ∃ mx : Int, (if keep < 0 then 0 else keep) = mx := ⟨_, rfl⟩
  have hmin : (if (b.length : Int) + (c.length : Int) < mx then (b.length : Int) + (c.length : Int) else mx) = (kk : Int) := by
    rw [hkk, stays, List.length_append]
    split at hmx <;> split <;> omega
  have HK := Lib.hid hkk
  clear hra hrb hrc hkk
  go_enter Try.func4, Try.ntmps4
  go_wp2_with fail
  refine (new_any _ [(3, keep)] 1 w.heap.size 1000 _ (by omega) (by simp) (reads_new w _ 44 _ 2 1 rfl _ (by simp)) (by simp) (by simpa using hk)).mono ?_
  rintro e w1 ⟨g, rfl, hd, hbl, hg⟩
  have HD : Hid (DiskAt w1 w.heap.size g (St.new 1000 [(3, keep)]) ∧ Below w.heap.size w w1) := ⟨hd, ((Below.refl _ _).alloc (Nat.le_refl _) _).trans (hbl.mono (by simp))⟩
  have hr1 : Reads w1 w1.heap.size 1 A a.length (byteV a) := (HR.out.1.below HD.out.2).more HD.out.2.size
  have hgg : w.heap.size ≤ g := by simp at hg; omega
  clear hd hbl hg
  go_wp2_with fail
  refine (append_any A a ca g w.heap.size _ w1 HD.out.1 HD.out.2.size (Nat.zero_lt_succ _) hr1 (HR.out.1.apart hgg) hca (by omega)).mono ?_
  rintro e w2 ⟨rfl, hd, hk2⟩
  rw [E.out.1] at hd ⊢
  have HD2 : Hid (DiskAt w2 w.heap.size g (R1 keep a) ∧ Below w.heap.size w w2) := ⟨hd, HD.out.2.trans hk2.below⟩
  clear hd hk2 hr1 HD
  go_wp2_with fail
  refine (sync_any g w.heap.size _ w2 HD2.out.1 HD2.out.2.size (by simp [R1])).mono ?_
  rintro e w3 ⟨rfl, hd, hk2⟩
  rw [E.out.2.1] at hd ⊢
  have HD3 : Hid (DiskAt w3 w.heap.size g (R2 keep a) ∧ Below w.heap.size w w3) := ⟨hd, HD2.out.2.trans hk2.below⟩
  have hr3 : Reads w3 w3.heap.size 1 B b.length (byteV b) := (HR.out.2.1.below HD3.out.2).more HD3.out.2.size
  clear hd hk2 HD2
  go_wp2_with fail
  refine (append_any B b cb g w.heap.size _ w3 HD3.out.1 HD3.out.2.size (by simp [R2]) hr3 (HR.out.2.1.apart hgg) hcb (by omega)).mono ?_
  rintro e w4 ⟨rfl, hd, hk2⟩
  rw [E.out.2.2.1] at hd ⊢
  have HD4 : Hid (DiskAt w4 w.heap.size g (R3 keep a b) ∧ Below w.heap.size w w4) := ⟨hd, HD3.out.2.trans hk2.below⟩
  have hr4 : Reads w4 w4.heap.size 1 C c.length (byteV c) := (HR.out.2.2.below HD4.out.2).more HD4.out.2.size
  clear hd hk2 hr3 HD3
  go_wp2_with fail
  refine (append_any C c cc g w.heap.size _ w4 HD4.out.1 HD4.out.2.size (by simp [R3]) hr4 (HR.out.2.2.apart hgg) hcc (by omega)).mono ?_
  rintro e w5 ⟨rfl, hd, hk2⟩
  rw [E.out.2.2.2] at hd ⊢
  have HD5 : Hid (DiskAt w5 w.heap.size g (R4 keep a b c) ∧ Below w.heap.size w w5) := ⟨hd, HD4.out.2.trans hk2.below⟩
  clear hd hk2 hr4 HD4
  have hb5 := HD5.out.2
  have hrb5 : Reads w5 w5.heap.size 1 B b.length (byteV b) := (HR.out.2.1.below hb5).more hb5.size
  have hrc5 : Reads w5 w5.heap.size 1 C c.length (byteV c) := (HR.out.2.2.below hb5).more hb5.size
  have HB5 := Lib.hid (And.intro hrb5 hrc5)
  have hm5 : w.heap.size ≤ w5.heap.size := hb5.size
  clear hb5 hrb5 hrc5
  go_wp2_with (first | (at_builtin; refine wpList_append_any _ rfl (.tmp 49) (.tmp 50) _ rfl w5.heap.size 5 i0 _ 1 1 Try.underlying29 hi0 hz0 hz1 hz2 rfl (by omega) (.slice (some ⟨w5.heap.size, 0, none⟩) 0 0) 0 [] rfl (World.ownsRow_made w5 #[] 0 (Nat.le_refl _) (by simp [maxLen]) (by simp)) w5.heap.size B b.length cb (byteV b) rfl (HB5.out.1.alloc (Nat.le_refl _) _) (byteV_one _) (by simp only [maxLen]; omega) (by omega) (by simp) ?_; intro v6 w6 hown6 hg6 _; have hq6 := ((Below.refl w5.heap.size w5).alloc (Nat.le_refl _) (.cells #[] 5)).grown hg6 (by simp) (by simp [Value.ownBlock]); have H6 := Lib.hid (And.intro hown6 hq6); clear hown6 hg6 hq6) | (at_builtin; refine wpList_append_any _ rfl (.tmp 51) (.tmp 52) _ rfl w5.heap.size 5 i0 _ 1 1 Try.underlying29 hi0 hz0 hz1 hz2 rfl (by omega) v6 (0 + b.length) ([] ++ byteV b) rfl H6.out.1 w5.heap.size C c.length cc (byteV c) rfl (HB5.out.2.below H6.out.2) (byteV_one _) (by simp only [maxLen]; omega) (by omega) H6.out.2.size ?_; intro v7 w7 hown7 hg7 _; have hq7 := H6.out.2.grown hg7 H6.out.2.size (fun k hk => (own_block H6.out.1 hk).1); obtain ⟨A7, c7, rfl, hc7, -⟩ := own_slice hown7; have H7 := Lib.hid (And.intro hown7 hq7); clear hown7 hg7 hq7))
  have hd7 : DiskAt w7 w.heap.size g (R4 keep a b c) := HD5.out.1.below H7.out.2
  have hb7 : Below w.heap.size w w7 := HD5.out.2.trans (H7.out.2.mono hm5)
  have h4 : (R4 keep a b c).b.length = a.length + kk := by
    have h0 := HK.out
    rw [List.length_append] at h0
    simp only [R4, List.length_append, List.length_take, ← h0]
    omega
  rw [show ((a.length : Int) + (kk : Int)) = ((a.length + kk : Nat) : Int) from by omega]
  refine (read_does 0 (a.length + kk) g w.heap.size _ w7 hd7 (by rw [h4]; omega)).mono ?_
  rintro e w8 ⟨A8, c8, rfl, hown8, hb8⟩
  have hx8 : ((R4 keep a b c).b.drop 0).take (a.length + kk) = a ++ (b ++ c).take kk := by
    rw [List.drop_zero, List.take_of_length_le (by omega)]
    simp only [R4, ← HK.out]
  rw [hx8] at hown8
  have H8 : Hid (DiskAt w8 w.heap.size g (R4 keep a b c) ∧ Below w.heap.size w w8 ∧ w8.ownsRow w7.heap.size 5 1 (.slice A8 (a.length + kk) c8) (a.length + kk) (byteV (a ++ (b ++ c).take kk)) ∧ Reads w8 w8.heap.size 1 A7 (b.length + c.length) (byteV (b ++ c)) ∧ (R4 keep a b c).b.length = a.length + kk) := by
    refine ⟨hd7.below hb8, hb7.trans (hb8.mono hb7.size), hown8, ?_, h4⟩
    have := (Reads.of_own H7.out.1).below hb8
    rw [Nat.zero_add, List.nil_append, ← byteV_append] at this
    exact this.more hb8.size
  clear hd7 hb7 h4 hown8 hb8 hx8 hmin hmx
  go_wp2_with fail
  have hkc : (kk : Int) ≤ (c7 : Int) := by omega
  have hk0 : (0 : Int) ≤ (kk : Int) := by omega
  obtain ⟨sx, hsx⟩ : ∃ s : ByteArray, s = ⟨(a ++ (b ++ c).take kk).toArray⟩ := ⟨_, rfl⟩
  obtain ⟨sa, hsa⟩ : ∃ s : ByteArray, s = ⟨a.toArray⟩ := ⟨_, rfl⟩
  obtain ⟨sk, hsk⟩ : ∃ s : ByteArray, s = ⟨((b ++ c).take kk).toArray⟩ := ⟨_, rfl⟩
  have hsum : sx = sa ++ sk := by rw [hsx, hsa, hsk, ByteArray.mk_append_mk]
  have hsz : sa.size + sk.size ≤ 9223372036854775807 := by rw [hsa, hsk]; simp [ByteArray.size]; omega
  have hl8 := H8.out.2.2.2.2
  have HC : Hid (∀ w9, Behind w8 w9 → (convert 29 9 (.slice A8 (a.length + kk) c8)).run Try.prog w9 = .ok (.string sx) w9 ∧ (convert 29 9 (.slice A a.length ca)).run Try.prog w9 = .ok (.string sa) w9 ∧ (convert 29 9 (.slice A7 kk c7)).run Try.prog w9 = .ok (.string sk) w9 ∧ DiskAt w9 w.heap.size g (R4 keep a b c) ∧ Below w.heap.size w w9) := by
    intro w9 h9
    obtain ⟨q1, q2, q3, q4, -⟩ := H8.out
    rw [hsx, hsa, hsk]
    refine ⟨conv_reads ((Reads.of_own q3).below h9), conv_reads ((HR.out.1.below q2).below (h9.mono q2.size)), conv_reads (?_ : Reads _ w8.heap.size 1 _ _ _), q1.below h9, q2.trans (h9.mono q2.size)⟩
    have := (q4.below h9).take (m := kk) hkl
    rw [Nat.mul_one, ← byteV_take] at this
    exact this
  have heq : (sx.toList == (sa ++ sk).toList) = true := by rw [hsum]; exact beq_self_eq_true _
  have hsy : (R4 keep a b c).synced = a.length + kk := by simp only [R4, ← HK.out]
  have hdn : (R4 keep a b c).down = true := rfl
  clear hsx hsa hsk hsum
  refine wp_region_class (C := Behind w8) (by kernel_rfl) (by kernel_rfl) (Behind.drew w8) ?_
  repeat (first | go_big_quiet_skip | (go_big_quiet_want; go_big_quiet_op; go_big_quiet_on) | (go_big_quiet_want; go_big_quiet_op; refine ⟨_, fun _ _ => rfl, ?_⟩; go_big_quiet_on) | (go_big_quiet_want; go_big_quiet_op; apply Exists.intro; refine ⟨fun wq hq => ?_, ?_⟩; (first | exact (told_any wq).mono fun e w' ⟨he, hb⟩ => ⟨he, Behind.then_ hq hb⟩ | (go_at_call 20; exact (len_any g w.heap.size _ wq (HC.out wq hq).2.2.2.1).mono fun e w' ⟨he, hw⟩ => ⟨he, hw ▸ hq⟩) | (go_at_call 21; exact (synced_any g w.heap.size _ wq (HC.out wq hq).2.2.2.1).mono fun e w' ⟨he, hw⟩ => ⟨he, hw ▸ hq⟩) | (go_at_call 22; exact (down_any g w.heap.size _ wq (HC.out wq hq).2.2.2.1).mono fun e w' ⟨he, hw⟩ => ⟨he, hw ▸ hq⟩)); go_big_quiet_on) | (go_big_quiet_want; refine quiet_conv (.tmp 82) rfl rfl (fun wq hq => (HC.out wq hq).1) ?_; go_simp; go_big_quiet_on) | (go_big_quiet_want; refine quiet_conv (.tmp 84) rfl rfl (fun wq hq => (HC.out wq hq).2.1) ?_; go_simp; go_big_quiet_on) | (go_big_quiet_want; refine quiet_conv (.tmp 88) rfl rfl (fun wq hq => (HC.out wq hq).2.2.1) ?_; go_simp; go_big_quiet_on))
  refine wpQuiet_nil ?_
  intro w9 hq9
  have H9 := Lib.hid (HC.out w9 hq9).2.2.2.2
  clear hq9
  go_wp2
  go_ret
  exact ⟨rfl, H9.out⟩

set_option maxRecDepth 100000 in
set_option maxHeartbeats 4000000 in
theorem torn_biga (A B C : Option Addr) (la lb lc ca cb cc : Nat) (keep : Int) (w : World) (h : 50 < (la : Int)) :
    Calls Try.prog 4 #[.slice A la ca, .slice B lb cb, .slice C lc cc, .int .i64 keep] w fun e w' => e = .returned (.bool true) ∧ Below w.heap.size w w' := by
  go_enter Try.func4, Try.ntmps4
  go_wp2_with fail
  refine (told_any w).mono ?_
  rintro e w4 ⟨rfl, hb4⟩
  have HB4 := Lib.hid hb4
  clear hb4
  go_wp2_with fail
  go_ret
  exact ⟨rfl, HB4.out⟩

set_option maxRecDepth 100000 in
set_option maxHeartbeats 4000000 in
theorem torn_bigb (A B C : Option Addr) (la lb lc ca cb cc : Nat) (keep : Int) (w : World) (h1 : (la : Int) ≤ 50) (h : 50 < (lb : Int)) :
    Calls Try.prog 4 #[.slice A la ca, .slice B lb cb, .slice C lc cc, .int .i64 keep] w fun e w' => e = .returned (.bool true) ∧ Below w.heap.size w w' := by
  go_enter Try.func4, Try.ntmps4
  go_wp2_with fail
  refine (told_any w).mono ?_
  rintro e w4 ⟨rfl, hb4⟩
  have HB4 := Lib.hid hb4
  clear hb4
  go_wp2_with fail
  go_ret
  exact ⟨rfl, HB4.out⟩

set_option maxRecDepth 100000 in
set_option maxHeartbeats 4000000 in
theorem torn_bigc (A B C : Option Addr) (la lb lc ca cb cc : Nat) (keep : Int) (w : World) (h1 : (la : Int) ≤ 50) (h2 : (lb : Int) ≤ 50) (h : 50 < (lc : Int)) :
    Calls Try.prog 4 #[.slice A la ca, .slice B lb cb, .slice C lc cc, .int .i64 keep] w fun e w' => e = .returned (.bool true) ∧ Below w.heap.size w w' := by
  go_enter Try.func4, Try.ntmps4
  go_wp2_with fail
  refine (told_any w).mono ?_
  rintro e w4 ⟨rfl, hb4⟩
  have HB4 := Lib.hid hb4
  clear hb4
  go_wp2_with fail
  go_ret
  exact ⟨rfl, HB4.out⟩

theorem torn_any (A B C : Option Addr) (a b c : List UInt8) (ca cb cc : Nat) (keep : Int) (w : World) (hra : Reads w w.heap.size 1 A a.length (byteV a)) (hrb : Reads w w.heap.size 1 B b.length (byteV b)) (hrc : Reads w w.heap.size 1 C c.length (byteV c))
    (hca : a.length ≤ ca) (hcb : b.length ≤ cb) (hcc : c.length ≤ cc) (hk : -9223372036854775808 ≤ keep ∧ keep ≤ 9223372036854775807) :
    Calls Try.prog 4 #[.slice A a.length ca, .slice B b.length cb, .slice C c.length cc, .int .i64 keep] w fun e w' => e = .returned (.bool true) ∧ Below w.heap.size w w' := by
  by_cases ha : (a.length : Int) ≤ 50
  · by_cases hb : (b.length : Int) ≤ 50
    · by_cases hc : (c.length : Int) ≤ 50
      · exact torn_small A B C a b c ca cb cc keep w hra hrb hrc hca hcb hcc hk ha hb hc
      · exact torn_bigc A B C _ _ _ ca cb cc keep w ha hb (by omega)
    · exact torn_bigb A B C _ _ _ ca cb cc keep w ha (by omega)
  · exact torn_biga A B C _ _ _ ca cb cc keep w (by omega)
end Go.Proofs.Ytfmdloomjnmpgaa
