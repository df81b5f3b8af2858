/-
  'join' by each of its three functions; 'Or', 'And', 'Not': a new set, word by word.
-/
import Derived.Test.YtfmdloomjnmpgaaDoorOf
namespace Go.Proofs.YtfmdloomjnmpgaaDoor
open Go.RowKit
set_option linter.unusedVariables false

def orW (x y : UInt64) : UInt64 := UInt64.ofNat (x.toNat ||| y.toNat)
def andW (x y : UInt64) : UInt64 := UInt64.ofNat (x.toNat &&& y.toNat)
def notW (x y : UInt64) : UInt64 := UInt64.ofNat (x.toNat &&& (18446744073709551615 - y.toNat))
theorem ofNat_lt {n : Nat} (h : n < 18446744073709551616) : (UInt64.ofNat n).toNat = n := by
  rw [UInt64.toNat_ofNat']
  exact Nat.mod_eq_of_lt h
theorem orW_nat (x y : UInt64) : (orW x y).toNat = x.toNat ||| y.toNat := ofNat_lt (Nat.or_lt_two_pow (n := 64) (u64_lt x) (u64_lt y))
theorem andW_nat (x y : UInt64) : (andW x y).toNat = x.toNat &&& y.toNat := ofNat_lt (Nat.lt_of_le_of_lt Nat.and_le_left (u64_lt x))
theorem notW_nat (x y : UInt64) : (notW x y).toNat = x.toNat &&& (18446744073709551615 - y.toNat) := ofNat_lt (Nat.lt_of_le_of_lt Nat.and_le_left (u64_lt x))
theorem orW_bits (x y : UInt64) : bits .or .u64 (x.toNat : Int) (y.toNat : Int) = ((orW x y).toNat : Int) := by rw [orW_nat, bits_or_u64_nat _ _ (u64_lt x) (u64_lt y)]
theorem andW_bits (x y : UInt64) : bits .and .u64 (x.toNat : Int) (y.toNat : Int) = ((andW x y).toNat : Int) := by rw [andW_nat, bits_and_u64_nat _ _ (u64_lt x) (u64_lt y)]
theorem notW_bits (x y : UInt64) : bits .andNot .u64 (x.toNat : Int) (y.toNat : Int) = ((notW x y).toNat : Int) := by rw [notW_nat, u64_andNot_nat _ _ (u64_lt x) (u64_lt y)]
def joinL (g : UInt64 → UInt64 → UInt64) (a b : List UInt64) (n : Nat) : List UInt64 := (List.range n).map fun k => g (a.getD k 0) (b.getD k 0)
theorem joinL_len (g : UInt64 → UInt64 → UInt64) (a b : List UInt64) (n : Nat) : (joinL g a b n).length = n := by simp [joinL]
/-- What holds at the head of each round. -/
def Joins (w : World) (g : UInt64 → UInt64 → UInt64) (a b : List UInt64) (n k : Nat) (wr : World) : Prop :=
  ∃ ws, wr.ownsRow w.heap.size 43 1 (.slice (some ⟨w.heap.size, 0, none⟩) n n) n (wordV ws) ∧ ws.length = n ∧ (∀ j, j < k → ws[j]? = (joinL g a b n)[j]?) ∧ Below w.heap.size w wr
theorem joins_end {w wr : World} {g : UInt64 → UInt64 → UInt64} {a b : List UInt64} {n : Nat} (h : Joins w g a b n n wr) : wr.ownsRow w.heap.size 43 1 (.slice (some ⟨w.heap.size, 0, none⟩) n n) n (wordV (joinL g a b n)) ∧ Below w.heap.size w wr := by
  obtain ⟨ws, ho, hl, hs, hb⟩ := h
  have e : ws = joinL g a b n := same_all (by rw [hl, joinL_len]) (fun j hj => hs j (by omega))
  rw [← e]
  exact ⟨ho, hb⟩
theorem joins_step {w wr : World} {g : UInt64 → UInt64 → UInt64} {a b : List UInt64} {n k : Nat} (h : Joins w g a b n k wr) (hk : k < n) : Joins w g a b n (k + 1) (wr.setCell ⟨w.heap.size, k, none⟩ (.int .u64 (g (a.getD k 0) (b.getD k 0)).toNat)) := by
  obtain ⟨ws, ho, hl, hs, hb⟩ := h
  refine ⟨ws.set k (g (a.getD k 0) (b.getD k 0)), ?_, by simpa using hl, ?_, hb.setCell (Nat.le_refl _) _⟩
  · have h2 := (ho.stored k (.int .u64 (g (a.getD k 0) (b.getD k 0)).toNat)).1
    have e : wordV (ws.set k (g (a.getD k 0) (b.getD k 0))) = (wordV ws).set k (.int .u64 (g (a.getD k 0) (b.getD k 0)).toNat) := by simp [wordV, List.map_set]
    rw [e]
    exact h2
  · intro j hj
    rcases Nat.lt_or_ge j k with h1 | h1
    · rw [List.getElem?_set_ne (by omega)]
      exact hs j h1
    · obtain rfl : j = k := by omega
      rw [List.getElem?_set_self (by omega)]
      simp [joinL, hk]

set_option maxHeartbeats 400000 in
theorem or_fn (x y : UInt64) (w : World) :
    Calls Tryd.prog 27 #[.int .u64 x.toNat, .int .u64 y.toNat] w fun e w' => e = .returned (.int .u64 (orW x y).toNat) ∧ w = w' := by
  go_enter Tryd.func27, Tryd.ntmps27
  go_wp2_with fail
  go_ret
  exact ⟨ret_int (orW_bits x y), rfl⟩
set_option maxHeartbeats 1000000 in
theorem or_join (A B : Option Addr) (a b : List UInt64) (ca cb n : Nat) (w : World) (ha : Reads w w.heap.size 1 A a.length (wordV a)) (hb : Reads w w.heap.size 1 B b.length (wordV b)) (hn : n ≤ 1000000) :
    Calls Tryd.prog 26 #[.slice A a.length ca, .slice B b.length cb, .int .i64 n, .func (Fn.func 27) #[] #[]] w fun e w' => ∃ v, e = .returned v ∧ w'.ownsRow w.heap.size 43 1 v n (wordV (joinL orW a b n)) ∧ Below w.heap.size w w' := by
  have HR := Lib.hid (And.intro ha hb)
  have hmk := make_words n (n : Int) rfl hn
  have HB : Hid (Joins w orW a b n 0 (w.alloc (.cells (madeCells #[.int .u64 0] n) 43))) := Lib.hid ⟨_, made_words w n hn, by simp [zeros], fun _ h => absurd h (by omega), (Below.refl _ _).alloc (Nat.le_refl _) _⟩
  clear ha hb
  go_enter Tryd.func26, Tryd.ntmps26
  go_wp2_with fail
  go_loopw [15] (fun i wr => ∃ k : Nat, k ≤ n ∧ i = .int .i64 k ∧ Hid (Joins w orW a b n k wr)) (fun i _ => n - (intOf i).toNat)
  case atStart => exact ⟨0, Nat.zero_le _, rfl, HB⟩
  case round =>
    obtain ⟨k, hk, rfl, HP⟩ := hrel
    clear HB hmk
    obtain ⟨ws, hown, hlen, hjs, hbel⟩ := HP.out
    by_cases hlt : k < n
    · have H1 : Hid (Reads wr wr.heap.size 1 A a.length (wordV a) ∧ Reads wr wr.heap.size 1 B b.length (wordV b)) := Lib.hid ⟨(HR.out.1.below hbel).more hbel.size, (HR.out.2.below hbel).more hbel.size⟩
      obtain ⟨y, hy⟩ : ∃ y, ws[k]? = some y := ⟨_, List.getElem?_eq_getElem (by omega)⟩
      have hcw : wr.cell? ⟨w.heap.size, k, none⟩ = some (.int .u64 y.toNat) := by
        rw [hown.cellAt _ (by omega)]
        simp [wordV, hy]
      have hfw : wr.frozen? ⟨w.heap.size, k, none⟩ = false := hown.frozenAt _
      have HS := Lib.hid (joins_step HP.out hlt)
      clear hown hlen hjs hbel hy
      go_wp2_with fail
      refine (get_any k A a ca wr H1.out.1).mono ?_
      rintro e w1 ⟨rfl, rfl⟩
      go_wp2_with fail
      refine (get_any k B b cb wr H1.out.2).mono ?_
      rintro e w1 ⟨rfl, rfl⟩
      go_wp2_with fail
      refine (or_fn _ _ wr).mono ?_
      rintro e w1 ⟨rfl, rfl⟩
      go_wp2_with fail
      go_roundw
      case rel => exact ⟨k + 1, by omega, by go_num, HS⟩
      case measure => simp [intOf]; omega
    · obtain rfl : k = n := by omega
      have HE := Lib.hid (joins_end HP.out)
      clear hown hlen hjs hbel
      go_wp2_with fail
      go_ret
      exact ⟨_, rfl, HE.out⟩
set_option maxHeartbeats 1000000 in
theorem or_any1 (A B : Option Addr) (a b : List UInt64) (ca cb : Nat) (w : World) (ha : Reads w w.heap.size 1 A a.length (wordV a)) (hb : Reads w w.heap.size 1 B b.length (wordV b)) (hna : a.length ≤ 1000000) (hnb : b.length ≤ 1000000) (h : a.length < b.length) :
    Calls Tryd.prog 18 #[.slice A a.length ca, .slice B b.length cb] w fun e w' => ∃ v, e = .returned v ∧ w'.ownsRow w.heap.size 43 1 v (b.length) (wordV (joinL orW a b (b.length))) ∧ Below w.heap.size w w' := by
  have HR := Lib.hid (And.intro ha hb)
  clear ha hb
  go_enter Tryd.func18, Tryd.ntmps18
  go_wp2_with fail
  refine (or_join A B a b ca cb (b.length) w HR.out.1 HR.out.2 (by omega)).mono ?_
  rintro e w1 ⟨v, rfl, hown, hbel⟩
  have HE := Lib.hid (And.intro hown hbel)
  clear hown hbel
  go_wp2_with fail
  go_ret
  exact ⟨_, rfl, HE.out⟩
set_option maxHeartbeats 1000000 in
theorem or_any2 (A B : Option Addr) (a b : List UInt64) (ca cb : Nat) (w : World) (ha : Reads w w.heap.size 1 A a.length (wordV a)) (hb : Reads w w.heap.size 1 B b.length (wordV b)) (hna : a.length ≤ 1000000) (hnb : b.length ≤ 1000000) (h : ¬ a.length < b.length) :
    Calls Tryd.prog 18 #[.slice A a.length ca, .slice B b.length cb] w fun e w' => ∃ v, e = .returned v ∧ w'.ownsRow w.heap.size 43 1 v (a.length) (wordV (joinL orW a b (a.length))) ∧ Below w.heap.size w w' := by
  have HR := Lib.hid (And.intro ha hb)
  clear ha hb
  have h2 : b.length ≤ a.length := by omega
  clear h
  go_enter Tryd.func18, Tryd.ntmps18
  go_wp2_with fail
  refine (or_join A B a b ca cb (a.length) w HR.out.1 HR.out.2 (by omega)).mono ?_
  rintro e w1 ⟨v, rfl, hown, hbel⟩
  have HE := Lib.hid (And.intro hown hbel)
  clear hown hbel
  go_wp2_with fail
  go_ret
  exact ⟨_, rfl, HE.out⟩
theorem or_any (A B : Option Addr) (a b : List UInt64) (ca cb : Nat) (w : World) (ha : Reads w w.heap.size 1 A a.length (wordV a)) (hb : Reads w w.heap.size 1 B b.length (wordV b)) (hna : a.length ≤ 1000000) (hnb : b.length ≤ 1000000) :
    Calls Tryd.prog 18 #[.slice A a.length ca, .slice B b.length cb] w fun e w' => ∃ v, e = .returned v ∧ w'.ownsRow w.heap.size 43 1 v (max a.length b.length) (wordV (joinL orW a b (max a.length b.length))) ∧ Below w.heap.size w w' := by
  by_cases h : a.length < b.length
  · rw [show max a.length b.length = b.length from by omega]
    exact or_any1 A B a b ca cb w ha hb hna hnb h
  · rw [show max a.length b.length = a.length from by omega]
    exact or_any2 A B a b ca cb w ha hb hna hnb h
set_option maxHeartbeats 400000 in
theorem and_fn (x y : UInt64) (w : World) :
    Calls Tryd.prog 28 #[.int .u64 x.toNat, .int .u64 y.toNat] w fun e w' => e = .returned (.int .u64 (andW x y).toNat) ∧ w = w' := by
  go_enter Tryd.func28, Tryd.ntmps28
  go_wp2_with fail
  go_ret
  exact ⟨ret_int (andW_bits x y), rfl⟩
set_option maxHeartbeats 1000000 in
theorem and_join (A B : Option Addr) (a b : List UInt64) (ca cb n : Nat) (w : World) (ha : Reads w w.heap.size 1 A a.length (wordV a)) (hb : Reads w w.heap.size 1 B b.length (wordV b)) (hn : n ≤ 1000000) :
    Calls Tryd.prog 26 #[.slice A a.length ca, .slice B b.length cb, .int .i64 n, .func (Fn.func 28) #[] #[]] w fun e w' => ∃ v, e = .returned v ∧ w'.ownsRow w.heap.size 43 1 v n (wordV (joinL andW a b n)) ∧ Below w.heap.size w w' := by
  have HR := Lib.hid (And.intro ha hb)
  have hmk := make_words n (n : Int) rfl hn
  have HB : Hid (Joins w andW a b n 0 (w.alloc (.cells (madeCells #[.int .u64 0] n) 43))) := Lib.hid ⟨_, made_words w n hn, by simp [zeros], fun _ h => absurd h (by omega), (Below.refl _ _).alloc (Nat.le_refl _) _⟩
  clear ha hb
  go_enter Tryd.func26, Tryd.ntmps26
  go_wp2_with fail
  go_loopw [15] (fun i wr => ∃ k : Nat, k ≤ n ∧ i = .int .i64 k ∧ Hid (Joins w andW a b n k wr)) (fun i _ => n - (intOf i).toNat)
  case atStart => exact ⟨0, Nat.zero_le _, rfl, HB⟩
  case round =>
    obtain ⟨k, hk, rfl, HP⟩ := hrel
    clear HB hmk
    obtain ⟨ws, hown, hlen, hjs, hbel⟩ := HP.out
    by_cases hlt : k < n
    · have H1 : Hid (Reads wr wr.heap.size 1 A a.length (wordV a) ∧ Reads wr wr.heap.size 1 B b.length (wordV b)) := Lib.hid ⟨(HR.out.1.below hbel).more hbel.size, (HR.out.2.below hbel).more hbel.size⟩
      obtain ⟨y, hy⟩ : ∃ y, ws[k]? = some y := ⟨_, List.getElem?_eq_getElem (by omega)⟩
      have hcw : wr.cell? ⟨w.heap.size, k, none⟩ = some (.int .u64 y.toNat) := by
        rw [hown.cellAt _ (by omega)]
        simp [wordV, hy]
      have hfw : wr.frozen? ⟨w.heap.size, k, none⟩ = false := hown.frozenAt _
      have HS := Lib.hid (joins_step HP.out hlt)
      clear hown hlen hjs hbel hy
      go_wp2_with fail
      refine (get_any k A a ca wr H1.out.1).mono ?_
      rintro e w1 ⟨rfl, rfl⟩
      go_wp2_with fail
      refine (get_any k B b cb wr H1.out.2).mono ?_
      rintro e w1 ⟨rfl, rfl⟩
      go_wp2_with fail
      refine (and_fn _ _ wr).mono ?_
      rintro e w1 ⟨rfl, rfl⟩
      go_wp2_with fail
      go_roundw
      case rel => exact ⟨k + 1, by omega, by go_num, HS⟩
      case measure => simp [intOf]; omega
    · obtain rfl : k = n := by omega
      have HE := Lib.hid (joins_end HP.out)
      clear hown hlen hjs hbel
      go_wp2_with fail
      go_ret
      exact ⟨_, rfl, HE.out⟩
set_option maxHeartbeats 1000000 in
theorem and_any1 (A B : Option Addr) (a b : List UInt64) (ca cb : Nat) (w : World) (ha : Reads w w.heap.size 1 A a.length (wordV a)) (hb : Reads w w.heap.size 1 B b.length (wordV b)) (hna : a.length ≤ 1000000) (hnb : b.length ≤ 1000000) (h : a.length < b.length) :
    Calls Tryd.prog 19 #[.slice A a.length ca, .slice B b.length cb] w fun e w' => ∃ v, e = .returned v ∧ w'.ownsRow w.heap.size 43 1 v (b.length) (wordV (joinL andW a b (b.length))) ∧ Below w.heap.size w w' := by
  have HR := Lib.hid (And.intro ha hb)
  clear ha hb
  go_enter Tryd.func19, Tryd.ntmps19
  go_wp2_with fail
  refine (and_join A B a b ca cb (b.length) w HR.out.1 HR.out.2 (by omega)).mono ?_
  rintro e w1 ⟨v, rfl, hown, hbel⟩
  have HE := Lib.hid (And.intro hown hbel)
  clear hown hbel
  go_wp2_with fail
  go_ret
  exact ⟨_, rfl, HE.out⟩
set_option maxHeartbeats 1000000 in
theorem and_any2 (A B : Option Addr) (a b : List UInt64) (ca cb : Nat) (w : World) (ha : Reads w w.heap.size 1 A a.length (wordV a)) (hb : Reads w w.heap.size 1 B b.length (wordV b)) (hna : a.length ≤ 1000000) (hnb : b.length ≤ 1000000) (h : ¬ a.length < b.length) :
    Calls Tryd.prog 19 #[.slice A a.length ca, .slice B b.length cb] w fun e w' => ∃ v, e = .returned v ∧ w'.ownsRow w.heap.size 43 1 v (a.length) (wordV (joinL andW a b (a.length))) ∧ Below w.heap.size w w' := by
  have HR := Lib.hid (And.intro ha hb)
  clear ha hb
  have h2 : b.length ≤ a.length := by omega
  clear h
  go_enter Tryd.func19, Tryd.ntmps19
  go_wp2_with fail
  refine (and_join A B a b ca cb (a.length) w HR.out.1 HR.out.2 (by omega)).mono ?_
  rintro e w1 ⟨v, rfl, hown, hbel⟩
  have HE := Lib.hid (And.intro hown hbel)
  clear hown hbel
  go_wp2_with fail
  go_ret
  exact ⟨_, rfl, HE.out⟩
theorem and_any (A B : Option Addr) (a b : List UInt64) (ca cb : Nat) (w : World) (ha : Reads w w.heap.size 1 A a.length (wordV a)) (hb : Reads w w.heap.size 1 B b.length (wordV b)) (hna : a.length ≤ 1000000) (hnb : b.length ≤ 1000000) :
    Calls Tryd.prog 19 #[.slice A a.length ca, .slice B b.length cb] w fun e w' => ∃ v, e = .returned v ∧ w'.ownsRow w.heap.size 43 1 v (max a.length b.length) (wordV (joinL andW a b (max a.length b.length))) ∧ Below w.heap.size w w' := by
  by_cases h : a.length < b.length
  · rw [show max a.length b.length = b.length from by omega]
    exact and_any1 A B a b ca cb w ha hb hna hnb h
  · rw [show max a.length b.length = a.length from by omega]
    exact and_any2 A B a b ca cb w ha hb hna hnb h
set_option maxHeartbeats 400000 in
theorem not_fn (x y : UInt64) (w : World) :
    Calls Tryd.prog 29 #[.int .u64 x.toNat, .int .u64 y.toNat] w fun e w' => e = .returned (.int .u64 (notW x y).toNat) ∧ w = w' := by
  go_enter Tryd.func29, Tryd.ntmps29
  go_wp2_with fail
  go_ret
  exact ⟨ret_int (notW_bits x y), rfl⟩
set_option maxHeartbeats 1000000 in
theorem not_join (A B : Option Addr) (a b : List UInt64) (ca cb n : Nat) (w : World) (ha : Reads w w.heap.size 1 A a.length (wordV a)) (hb : Reads w w.heap.size 1 B b.length (wordV b)) (hn : n ≤ 1000000) :
    Calls Tryd.prog 26 #[.slice A a.length ca, .slice B b.length cb, .int .i64 n, .func (Fn.func 29) #[] #[]] w fun e w' => ∃ v, e = .returned v ∧ w'.ownsRow w.heap.size 43 1 v n (wordV (joinL notW a b n)) ∧ Below w.heap.size w w' := by
  have HR := Lib.hid (And.intro ha hb)
  have hmk := make_words n (n : Int) rfl hn
  have HB : Hid (Joins w notW a b n 0 (w.alloc (.cells (madeCells #[.int .u64 0] n) 43))) := Lib.hid ⟨_, made_words w n hn, by simp [zeros], fun _ h => absurd h (by omega), (Below.refl _ _).alloc (Nat.le_refl _) _⟩
  clear ha hb
  go_enter Tryd.func26, Tryd.ntmps26
  go_wp2_with fail
  go_loopw [15] (fun i wr => ∃ k : Nat, k ≤ n ∧ i = .int .i64 k ∧ Hid (Joins w notW a b n k wr)) (fun i _ => n - (intOf i).toNat)
  case atStart => exact ⟨0, Nat.zero_le _, rfl, HB⟩
  case round =>
    obtain ⟨k, hk, rfl, HP⟩ := hrel
    clear HB hmk
    obtain ⟨ws, hown, hlen, hjs, hbel⟩ := HP.out
    by_cases hlt : k < n
    · have H1 : Hid (Reads wr wr.heap.size 1 A a.length (wordV a) ∧ Reads wr wr.heap.size 1 B b.length (wordV b)) := Lib.hid ⟨(HR.out.1.below hbel).more hbel.size, (HR.out.2.below hbel).more hbel.size⟩
      obtain ⟨y, hy⟩ : ∃ y, ws[k]? = some y := ⟨_, List.getElem?_eq_getElem (by omega)⟩
      have hcw : wr.cell? ⟨w.heap.size, k, none⟩ = some (.int .u64 y.toNat) := by
        rw [hown.cellAt _ (by omega)]
        simp [wordV, hy]
      have hfw : wr.frozen? ⟨w.heap.size, k, none⟩ = false := hown.frozenAt _
      have HS := Lib.hid (joins_step HP.out hlt)
      clear hown hlen hjs hbel hy
      go_wp2_with fail
      refine (get_any k A a ca wr H1.out.1).mono ?_
      rintro e w1 ⟨rfl, rfl⟩
      go_wp2_with fail
      refine (get_any k B b cb wr H1.out.2).mono ?_
      rintro e w1 ⟨rfl, rfl⟩
      go_wp2_with fail
      refine (not_fn _ _ wr).mono ?_
      rintro e w1 ⟨rfl, rfl⟩
      go_wp2_with fail
      go_roundw
      case rel => exact ⟨k + 1, by omega, by go_num, HS⟩
      case measure => simp [intOf]; omega
    · obtain rfl : k = n := by omega
      have HE := Lib.hid (joins_end HP.out)
      clear hown hlen hjs hbel
      go_wp2_with fail
      go_ret
      exact ⟨_, rfl, HE.out⟩
set_option maxHeartbeats 1000000 in
theorem not_any (A B : Option Addr) (a b : List UInt64) (ca cb : Nat) (w : World) (ha : Reads w w.heap.size 1 A a.length (wordV a)) (hb : Reads w w.heap.size 1 B b.length (wordV b)) (hna : a.length ≤ 1000000)  :
    Calls Tryd.prog 20 #[.slice A a.length ca, .slice B b.length cb] w fun e w' => ∃ v, e = .returned v ∧ w'.ownsRow w.heap.size 43 1 v (a.length) (wordV (joinL notW a b (a.length))) ∧ Below w.heap.size w w' := by
  have HR := Lib.hid (And.intro ha hb)
  clear ha hb
  go_enter Tryd.func20, Tryd.ntmps20
  go_wp2_with fail
  refine (not_join A B a b ca cb (a.length) w HR.out.1 HR.out.2 (by omega)).mono ?_
  rintro e w1 ⟨v, rfl, hown, hbel⟩
  have HE := Lib.hid (And.intro hown hbel)
  clear hown hbel
  go_wp2_with fail
  go_ret
  exact ⟨_, rfl, HE.out⟩
end Go.Proofs.YtfmdloomjnmpgaaDoor
