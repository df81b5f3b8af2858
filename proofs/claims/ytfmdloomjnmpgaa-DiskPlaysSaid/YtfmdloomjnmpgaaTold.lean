/-
  What the statements ask of a few known inputs ('told'): true, and nothing that was there has turned.
-/
import Derived.Test.YtfmdloomjnmpgaaOps3
import Derived.Lib.SlBytesConst
namespace Go.Proofs.Ytfmdloomjnmpgaa
open Go.RowKit

theorem cell_marked (w : World) (C : Array Value) (t : TypeId) (fr : Nat × Nat) (j : Nat) : (w.alloc (.cells C t fr)).cell? ⟨w.heap.size, j, none⟩ = C[j]? := by
  simp only [World.cell?, heap_alloc_new]
  rfl
theorem reads_new (w : World) (l : List Value) (t : TypeId) (fr : Nat × Nat) (size n : Nat) (hl : l.length = n * size) (B : Nat) (hB : w.heap.size < B) : Reads (w.alloc (.cells l.toArray t fr)) B size (some ⟨w.heap.size, 0, none⟩) n l :=
  ⟨hl, fun _ => ⟨_, rfl, hB, fun j u hu => by
    have := cell_marked w l.toArray t fr j
    have e : (⟨w.heap.size, 0, none⟩ : Addr).add j = ⟨w.heap.size, j, none⟩ := by rw [Addr.add_lit, Nat.zero_add]
    rw [e, this]
    simpa using hu⟩⟩

def T0 : St := St.new 5 [(3, 1)]
def T1 : St := { b := [97, 98], synced := 0, size := 5, faults := [(3, 1)], calls := 1, down := false }
def T2 : St := { b := [97, 98], synced := 2, size := 5, faults := [(3, 1)], calls := 2, down := false }
def T3 : St := { b := [97, 98], synced := 2, size := 5, faults := [(3, 1)], calls := 3, down := false }
def T4 : St := { b := [97, 98, 99], synced := 3, size := 5, faults := [(3, 1)], calls := 4, down := true }
def T5 : St := { b := [97, 98, 99], synced := 3, size := 5, faults := [], calls := 0, down := false }
def T6 : St := { b := [97], synced := 1, size := 5, faults := [], calls := 1, down := false }
def T7 : St := { b := [97], synced := 1, size := 5, faults := [], calls := 2, down := false }
theorem t01 : T0.append [97, 98] = (0, T1) := by rfl
theorem t12 : T1.sync = (0, T2) := by rfl
theorem t23 : T2.append [99, 100, 101, 102] = (8, T3) := by rfl
theorem t34 : T3.append [99, 100] = (9, T4) := by rfl
theorem t45 : T4.up [] = T5 := by rfl
theorem t56 : { T5 with calls := T5.calls + 1, b := T5.b.take 1, synced := min T5.synced 1 } = T6 := by rfl
theorem t67 : { T6 with calls := T6.calls + 1 } = T7 := by rfl

theorem DiskAt.lt {w : World} {base g : Nat} {s : St} (h : DiskAt w base g s) : g < w.heap.size := by
  obtain ⟨_, _, h⟩ := h
  exact h.lt
theorem DiskAt.alloc {w : World} {base g : Nat} {s : St} (h : DiskAt w base g s) (o : Obj) : DiskAt (w.alloc o) base g s := h.below ((Below.refl _ _).alloc (Nat.le_refl _) o)

set_option maxRecDepth 100000 in
set_option maxHeartbeats 4000000 in
theorem told_any (w : World) : Calls Try.prog 8 #[] w fun e w' => e = .returned (.bool true) ∧ Below w.heap.size w w' := by
  have kc := fun (w : World) (C : Array Value) (n c : Nat) => Lib.run_convert_bytes_const (P := Try.prog) w 29 5 C n c Try.underlying29 Try.underlying5
  go_enter Try.func8, Try.ntmps8
  go_wp2_with fail
  refine (new_any _ [(3, 1)] 1 w.heap.size 5 _ (by omega) (by simp) (reads_new w _ 44 _ 2 1 rfl _ (by simp)) (by simp) (by simp)).mono ?_
  rintro e w1 ⟨g, rfl, hd, hb, -⟩
  have HB : Hid (DiskAt w1 w.heap.size g T0 ∧ Below w.heap.size w w1) := ⟨hd, ((Below.refl _ _).alloc (Nat.le_refl _) _).trans (hb.mono (by simp))⟩
  clear hd hb
  go_wp2_with fail
  refine (append_any _ [97, 98] 2 g w.heap.size T0 _ (HB.out.1.alloc _) (Nat.le_trans HB.out.2.size (by simp)) (by decide) (reads_new w1 _ 5 _ 1 2 rfl _ (by simp)) (fun _ ad h => by cases h; have := HB.out.1.lt; simp; omega) (by simp) (by simp)).mono ?_
  rintro e w2 ⟨rfl, hd, hk⟩
  rw [t01] at hd ⊢
  have HB2 : Hid (DiskAt w2 w.heap.size g T1 ∧ Below w.heap.size w w2) := ⟨hd, (HB.out.2.alloc HB.out.2.size _).trans hk.below⟩
  clear hd hk
  go_wp2_with fail
  refine (sync_any g w.heap.size T1 _ HB2.out.1 HB2.out.2.size (by decide)).mono ?_
  rintro e w3 ⟨rfl, hd, hk⟩
  rw [t12] at hd ⊢
  have HB3 : Hid (DiskAt w3 w.heap.size g T2 ∧ Below w.heap.size w w3) := ⟨hd, HB2.out.2.trans hk.below⟩
  clear hd hk
  go_wp2_with fail
  refine (append_any _ [99, 100, 101, 102] 4 g w.heap.size T2 _ (HB3.out.1.alloc _) (Nat.le_trans HB3.out.2.size (by simp)) (by decide) (reads_new w3 _ 5 _ 1 4 rfl _ (by simp)) (fun _ ad h => by cases h; have := HB3.out.1.lt; simp; omega) (by simp) (by simp)).mono ?_
  rintro e w4 ⟨rfl, hd, hk⟩
  rw [t23] at hd ⊢
  have HB4 : Hid (DiskAt w4 w.heap.size g T3 ∧ Below w.heap.size w w4) := ⟨hd, (HB3.out.2.alloc HB3.out.2.size _).trans hk.below⟩
  clear hd hk
  go_wp2_with fail
  refine (append_any _ [99, 100] 2 g w.heap.size T3 _ (HB4.out.1.alloc _) (Nat.le_trans HB4.out.2.size (by simp)) (by decide) (reads_new w4 _ 5 _ 1 2 rfl _ (by simp)) (fun _ ad h => by cases h; have := HB4.out.1.lt; simp; omega) (by simp) (by simp)).mono ?_
  rintro e w5 ⟨rfl, hd, hk⟩
  rw [t34] at hd ⊢
  have HB5 : Hid (DiskAt w5 w.heap.size g T4 ∧ Below w.heap.size w w5) := ⟨hd, (HB4.out.2.alloc HB4.out.2.size _).trans hk.below⟩
  clear hd hk HB HB2 HB3 HB4
  go_wp2_with fail
  refine (read_does 0 3 g w.heap.size T4 _ HB5.out.1 (by decide)).mono ?_
  rintro e w6 ⟨Ax, cx, rfl, hx, hb⟩
  have HB6 : Hid (DiskAt w6 w.heap.size g T4 ∧ Below w.heap.size w w6 ∧ w6.ownsRow w5.heap.size 5 1 (.slice Ax 3 cx) 3 (byteV [97, 98, 99])) := ⟨HB5.out.1.below hb, HB5.out.2.trans (hb.mono HB5.out.2.size), hx⟩
  clear hx hb HB5
  go_wp2_with fail
  refine (read_arg 0 4 g w.heap.size T4 _ HB6.out.1 (by omega) (by omega) (by right; right; decide)).mono ?_
  rintro e w7 ⟨rfl, rfl⟩
  go_wp2_with fail
  refine (down_any g w.heap.size T4 _ HB6.out.1).mono ?_
  rintro e w7 ⟨rfl, rfl⟩
  go_wp2_with fail
  refine (calls_any g w.heap.size T4 _ HB6.out.1).mono ?_
  rintro e w7 ⟨rfl, rfl⟩
  go_wp2_with fail
  refine (sync_down g w.heap.size T4 _ HB6.out.1 rfl).mono ?_
  rintro e w7 ⟨rfl, rfl⟩
  go_wp2_with fail
  refine (up_any none [] 0 g w.heap.size T4 _ HB6.out.1 HB6.out.2.1.size ⟨by simp [faultCells], fun h => absurd h (by simp)⟩ (by simp) (by simp)).mono ?_
  rintro e w8 ⟨rfl, hd, hk⟩
  rw [t45] at hd
  have HB8 : Hid (DiskAt w8 w.heap.size g T5 ∧ Below w.heap.size w w8 ∧ w8.ownsRow w5.heap.size 5 1 (.slice Ax 3 cx) 3 (byteV [97, 98, 99])) := ⟨hd, HB6.out.2.1.trans hk.below, hk.own HB6.out.2.2 (by simp)⟩
  clear hd hk HB6
  go_wp2_with fail
  refine (trunc_does 1 g w.heap.size T5 _ HB8.out.1 HB8.out.2.1.size (by decide) rfl rfl (by decide)).mono ?_
  rintro e w9 ⟨rfl, hd, hk⟩
  rw [t56] at hd
  have HB9 : Hid (DiskAt w9 w.heap.size g T6 ∧ Below w.heap.size w w9) := ⟨hd, HB8.out.2.1.trans hk.below⟩
  have hconv := conv_reads (c := cx) (Reads.of_own (hk.own HB8.out.2.2 (by simp)))
  clear hd hk HB8
  go_wp2_with fail
  refine (len_any g w.heap.size T6 _ HB9.out.1).mono ?_
  rintro e w7 ⟨rfl, rfl⟩
  go_wp2_with fail
  refine (synced_any g w.heap.size T6 _ HB9.out.1).mono ?_
  rintro e w7 ⟨rfl, rfl⟩
  go_wp2_with fail
  refine (trunc_arg 2 g w.heap.size T6 _ HB9.out.1 HB9.out.2.size (by decide) rfl rfl (by right; decide)).mono ?_
  rintro e w10 ⟨rfl, hd, hk⟩
  rw [t67] at hd
  have HB10 : Hid (DiskAt w10 w.heap.size g T7 ∧ Below w.heap.size w w10) := ⟨hd, HB9.out.2.trans hk.below⟩
  clear hd hk HB9 hconv
  go_wp2_with fail
  refine (down_any g w.heap.size T7 _ HB10.out.1).mono ?_
  rintro e w7 ⟨rfl, rfl⟩
  go_wp2_with fail
  refine (new_bad none 0 0 (-1) _ (by omega)).mono ?_
  rintro e w7 ⟨rfl, rfl⟩
  go_wp2_with fail
  refine (append_nil none 0 0 _).mono ?_
  rintro e w7 ⟨rfl, rfl⟩
  go_wp2_with fail
  refine (len_nil _).mono ?_
  rintro e w7 ⟨rfl, rfl⟩
  go_wp2_with fail
  go_ret
  exact ⟨rfl, HB10.out.2⟩
end Go.Proofs.Ytfmdloomjnmpgaa
